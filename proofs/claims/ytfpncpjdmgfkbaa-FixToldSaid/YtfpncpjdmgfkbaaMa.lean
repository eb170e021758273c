/- Texts of one kind, in one file. -/
import Derived.WalkKit
import Derived.WalkSpells
import Derived.WalkLawsBesides
import Derived.Lib.Hide
import Derived.Deep.QuietTactic
import Derived.BigQuiet
import Derived.Maps.AppendAt
import Derived.Deep.Draws
import Derived.Laws.AppendOwnNone

/- (XBase) Words for memory: what reads as a list, what a call has touched, rows that a call owns. No program in sight. -/
namespace Go.Proofs.Ytfpncpjdmgfkbaa
open Go.RowKit

theorem ret_int {k : IntKind} {a b : Int} (h : a = b) : Ending.returned (.int k a) = .returned (.int k b) := by rw [h]
theorem ret_bool {a b : Bool} (h : a = b) : Ending.returned (.bool a) = .returned (.bool b) := by rw [h]
theorem ret_two {k : IntKind} {v : Value} {a b : Int} (h : a = b) : Ending.returned (.tuple #[v, .int k a]) = .returned (.tuple #[v, .int k b]) := by rw [h]
theorem ret_pair {k k' : IntKind} {a b c d : Int} (h : a = b) (h' : c = d) : Ending.returned (.tuple #[.int k a, .int k' c]) = .returned (.tuple #[.int k b, .int k' d]) := by rw [h, h']
theorem ret_val {a b : Value} (h : a = b) : Ending.returned a = .returned b := by rw [h]

/-- The cells xs lie at A, in a block below B. -/
def Rd (w : World) (B : Nat) (A : Option Addr) (xs : List Value) : Prop :=
  xs = [] ∨ ∃ b off, A = some ⟨b, off, none⟩ ∧ b < B ∧ ∀ j u, xs[j]? = some u → w.cell? ⟨b, off + j, none⟩ = some u

/-- From w to w' no old block outside S has turned. -/
structure Tch (S : Nat → Prop) (w w' : World) : Prop where
  os : w'.os = w.os
  tape : w'.tape = w.tape
  output : w'.output = w.output
  size : w.heap.size ≤ w'.heap.size
  block : ∀ k, k < w.heap.size → ¬ S k → w'.heap[k]? = w.heap[k]?

section
variable {S S' : Nat → Prop} {w w' w1 w2 : World} {B B' : Nat} {A : Option Addr} {xs : List Value}

theorem Tch.refl (S : Nat → Prop) (w : World) : Tch S w w := ⟨rfl, rfl, rfl, Nat.le_refl _, fun _ _ _ => rfl⟩
theorem Tch.trans (h : Tch S w w1) (k : Tch S' w1 w2) (hs : ∀ i, i < w.heap.size → S' i → S i) : Tch S w w2 :=
  ⟨k.os.trans h.os, k.tape.trans h.tape, k.output.trans h.output, Nat.le_trans h.size k.size,
    fun i hi hn => (k.block i (Nat.lt_of_lt_of_le hi h.size) (fun hs' => hn (hs i hi hs'))).trans (h.block i hi hn)⟩
theorem Tch.mono (h : Tch S w w') (hs : ∀ i, i < w.heap.size → S i → S' i) : Tch S' w w' :=
  ⟨h.os, h.tape, h.output, h.size, fun i hi hn => h.block i hi (fun h' => hn (hs i hi h'))⟩
theorem Tch.drewN (h : Tch S w w') (n : Nat) : Tch S w (w'.drewN n) := ⟨h.os, h.tape, h.output, h.size, h.block⟩
theorem Tch.undrew (h : Tch S w.drew w') : Tch S w w' := ⟨h.os, h.tape, h.output, h.size, h.block⟩
theorem Tch.alloc (h : Tch S w w') (o : Obj) : Tch S w (w'.alloc o) :=
  ⟨h.os, h.tape, h.output, Nat.le_trans h.size (by simp), fun i hi hn => (Below.heap_alloc w' o i (Nat.lt_of_lt_of_le hi h.size)).trans (h.block i hi hn)⟩
theorem Tch.setCell (h : Tch S w w') {p : Addr} (hp : p.block < w.heap.size → S p.block) (u : Value) : Tch S w (w'.setCell p u) :=
  ⟨h.os, h.tape, h.output, by simpa [World.setCell] using h.size, fun i hi hn => (Below.heap_setCell w' p u i (fun e => hn (e ▸ hp (e ▸ hi)))).trans (h.block i hi hn)⟩
theorem Tch.of_grown {row : Option Nat} (h : w.grownBy w' row) : Tch (fun k => row = some k) w w' :=
  ⟨h.os, h.tape, h.output, h.size, fun i hi hn => h.block i hi (fun e => hn e.symm)⟩
theorem Tch.of_below (h : Below B w w') : Tch (fun k => B ≤ k) w w' := ⟨h.os, h.tape, h.output, h.size, fun i _ hn => h.block i (by omega)⟩
theorem Tch.below (h : Tch S w w') (hB : B ≤ w.heap.size) (hs : ∀ k, k < B → ¬ S k) : Below B w w' :=
  ⟨h.os, h.tape, h.output, h.size, fun k hk => h.block k (by omega) (hs k hk)⟩
theorem Tch.blk (h : Tch S w w') {g : Nat} {o : Obj} (hg : w.heap[g]? = some o) (hn : ¬ S g) : w'.heap[g]? = some o :=
  (h.block g (lt_of_heap hg) hn).trans hg
where lt_of_heap {w : World} {g : Nat} {o : Obj} (h : w.heap[g]? = some o) : g < w.heap.size := (Array.getElem?_eq_some_iff.1 h).1

theorem below_tr (h : Below B w w1) (k : Below B' w1 w2) (hB : B ≤ B') : Below B w w2 := h.trans (k.mono hB)

theorem own_tch {base : Nat} {e : TypeId} {size : Nat} {v : Value} {n : Nat} (h : w.ownsRow base e size v n xs) (ht : Tch S w w') (hn : ∀ g, v.ownBlock = some g → ¬ S g) : w'.ownsRow base e size v n xs := by
  obtain ⟨h1, h2⟩ := h
  refine ⟨h1, ?_⟩
  rcases h2 with h2 | ⟨g, cap, cur, rfl, hg, hh, r⟩
  · exact .inl h2
  · exact .inr ⟨g, cap, cur, rfl, hg, ht.blk hh (hn g (by simp [Value.ownBlock])), r⟩
theorem own_below {base : Nat} {e : TypeId} {size : Nat} {v : Value} {n : Nat} (h : w.ownsRow base e size v n xs) (ht : Below w.heap.size w w') : w'.ownsRow base e size v n xs :=
  own_tch h (Tch.of_below ht) (fun g hg => by have := (h.lt g hg).2; omega)
theorem own_base {base base' : Nat} {e : TypeId} {size : Nat} {v : Value} {n : Nat} (h : w.ownsRow base e size v n xs) (hb : base' ≤ base) : w.ownsRow base' e size v n xs := by
  obtain ⟨h1, h2⟩ := h
  refine ⟨h1, ?_⟩
  rcases h2 with h2 | ⟨g, cap, cur, rfl, hg, r⟩
  · exact .inl h2
  · exact .inr ⟨g, cap, cur, rfl, by omega, r⟩
theorem own_cut {base : Nat} {e : TypeId} {size g c : Nat} {n k : Nat} (h : w.ownsRow base e size (.slice (some ⟨g, 0, none⟩) n c) n xs) (hk : k ≤ n) :
    w.ownsRow base e size (.slice (some ⟨g, 0, none⟩) k c) k (xs.take (k * size)) := by
  obtain ⟨h1, h2⟩ := h
  rcases h2 with ⟨h0, _⟩ | ⟨g', cap', cur, hv, hg, hh, hn, hcap, hsz, htake⟩
  · cases h0
  · cases hv
    have hm : k * size ≤ n * size := Nat.mul_le_mul_right _ hk
    refine ⟨by rw [List.length_take, h1]; omega, .inr ⟨g, c, cur, rfl, hg, hh, by omega, hcap, hsz, ?_⟩⟩
    rw [← htake, List.take_take, Nat.min_eq_left hm]
theorem own_cut_any {base : Nat} {e : TypeId} {size c : Nat} {n k : Nat} {A : Option Addr} (h : w.ownsRow base e size (.slice A n c) n xs) (hk : k ≤ n) :
    w.ownsRow base e size (.slice A k c) k (xs.take (k * size)) := by
  have h' := h
  obtain ⟨h1, h2⟩ := h'
  rcases h2 with ⟨h0, h00⟩ | ⟨g', cap', cur, hv, hg, hh, hn, hcap, hsz, htake⟩
  · cases h0
    have : k = 0 := by omega
    subst this
    exact ⟨by simp, .inl ⟨rfl, rfl⟩⟩
  · cases hv
    exact own_cut h hk
/-- The shape of an owned row that is not empty. -/
theorem own_form {base : Nat} {e : TypeId} {size : Nat} {v : Value} {n : Nat} (h : w.ownsRow base e size v n xs) (hn : 0 < n) :
    ∃ g cap, v = .slice (some ⟨g, 0, none⟩) n cap ∧ base ≤ g ∧ g < w.heap.size ∧ n ≤ cap ∧ cap ≤ maxLen := by
  rcases h.2 with ⟨_, h0⟩ | ⟨g, cap, cur, hv, hg, hh, hnc, hcap, _⟩
  · omega
  · exact ⟨g, cap, hv, hg, (Array.getElem?_eq_some_iff.1 hh).1, hnc, hcap⟩
/-- Of any owned row: a slice of n elements. -/
theorem own_any {base : Nat} {e : TypeId} {size : Nat} {v : Value} {n : Nat} (h : w.ownsRow base e size v n xs) :
    ∃ A cap, v = .slice A n cap ∧ n ≤ cap ∧ cap ≤ maxLen ∧ Rd w w.heap.size A xs := by
  rcases h.2 with ⟨hv, h0⟩ | ⟨g, cap, cur, hv, hg, hh, hnc, hcap, hsz, htake⟩
  · have hx : xs = [] := List.eq_nil_of_length_eq_zero (by rw [h.1, h0]; simp)
    exact ⟨none, 0, by rw [hv, h0], by omega, by unfold maxLen; omega, .inl hx⟩
  · refine ⟨_, cap, hv, hnc, hcap, .inr ⟨g, 0, rfl, (Array.getElem?_eq_some_iff.1 hh).1, fun j u hu => ?_⟩⟩
    have hc := h.cells (g := g) (by simp [hv, Value.ownBlock]) j u hu
    have hadd : (⟨g, 0, none⟩ : Addr).add j = ⟨g, 0 + j, none⟩ := by
      unfold Addr.add
      split
      · rename_i h; subst h; rfl
      · rfl
    rw [← hadd]
    exact hc
theorem own_ne {base base' : Nat} {e e' : TypeId} {size size' : Nat} {v v' : Value} {n n' : Nat} {xs' : List Value} (h : w.ownsRow base e size v n xs) (h' : w.ownsRow base' e' size' v' n' xs') (hne : e ≠ e') :
    ∀ g, v.ownBlock = some g → ¬ (v'.ownBlock = some g) := by
  intro g hg hg'
  rcases h.2 with ⟨rfl, _⟩ | ⟨k, cap, cur, rfl, _, hh, _⟩
  · simp [Value.ownBlock] at hg
  rcases h'.2 with ⟨rfl, _⟩ | ⟨k', cap', cur', rfl, _, hh', _⟩
  · simp [Value.ownBlock] at hg'
  simp [Value.ownBlock] at hg hg'
  subst hg; subst hg'
  rw [hh] at hh'
  injection hh' with hh'
  injection hh' with _ ht
  exact hne ht
theorem own_ne_blk {base : Nat} {e t : TypeId} {size : Nat} {v : Value} {n b : Nat} {cs : Array Value} (h : w.ownsRow base e size v n xs) (hb : w.heap[b]? = some (.cells cs t (0, 0))) (hne : e ≠ t) : v.ownBlock ≠ some b := by
  intro hg
  rcases h.2 with ⟨rfl, _⟩ | ⟨k, cap, cur, rfl, _, hh, _⟩
  · simp [Value.ownBlock] at hg
  simp [Value.ownBlock] at hg
  subst hg
  rw [hb] at hh
  injection hh with hh
  injection hh with _ ht
  exact hne ht.symm

theorem Rd.nil (w : World) (B : Nat) (A : Option Addr) : Rd w B A [] := .inl rfl
theorem Rd.at_ (h : Rd w B A xs) {j : Nat} {u : Value} (hj : xs[j]? = some u) : ∃ b off, A = some ⟨b, off, none⟩ ∧ b < B ∧ w.cell? ⟨b, off + j, none⟩ = some u := by
  rcases h with h | ⟨b, off, hA, hb, hc⟩
  · rw [h] at hj; simp at hj
  · exact ⟨b, off, hA, hb, hc j u hj⟩
theorem Rd.below (h : Rd w B A xs) (hb : Below B' w w') (hB : B ≤ B') : Rd w' B A xs := by
  rcases h with h | ⟨b, off, hA, hlt, hc⟩
  · exact .inl h
  · exact .inr ⟨b, off, hA, hlt, fun j u hj => (hb.cell (p := ⟨b, off + j, none⟩) (show b < B' by omega)).trans (hc j u hj)⟩
theorem Rd.tch (h : Rd w B A xs) (ht : Tch S w w') (hB : B ≤ w.heap.size) (hs : ∀ b, b < B → ¬ S b) : Rd w' B A xs :=
  h.below (ht.below hB hs) (Nat.le_refl _)
theorem Rd.up (h : Rd w B A xs) (hB : B ≤ B') : Rd w B' A xs := by
  rcases h with h | ⟨b, off, hA, hlt, hc⟩
  · exact .inl h
  · exact .inr ⟨b, off, hA, by omega, hc⟩
theorem Rd.take (h : Rd w B A xs) (k : Nat) : Rd w B A (xs.take k) := by
  rcases h with h | ⟨b, off, hA, hlt, hc⟩
  · exact .inl (by simp [h])
  · refine .inr ⟨b, off, hA, hlt, fun j u hj => hc j u ?_⟩
    rw [List.getElem?_take] at hj
    split at hj
    · exact hj
    · cases hj
/-- A cut from k on: the model keeps the address where nothing is left of the capacity. -/
theorem Rd.cut (h : Rd w B A xs) {k cap n size : Nat} (hx : xs.length = n * size) (hk : k ≤ n) (hc : n ≤ cap) :
    Rd w B (if cap = k then A else A.map (·.add (k * size))) (xs.drop (k * size)) := by
  by_cases hkn : k = n
  · left
    apply List.drop_eq_nil_of_le
    rw [hx, hkn]; exact Nat.le_refl _
  · rcases h with h | ⟨b, off, hA, hlt, hcell⟩
    · left; rw [h]; simp
    · rw [if_neg (by omega), hA]
      refine .inr ⟨b, off + k * size, ?_, hlt, fun j u hj => ?_⟩
      · simp only [Option.map_some, Addr.add]
        split
        · rename_i h0; rw [h0]; rfl
        · rfl
      · rw [Nat.add_assoc]
        exact hcell _ u (by rw [← hj, List.getElem?_drop])
end

/-- '.slice A n c' reads as the cells xs (size a piece), in a block below B. -/
structure Sl (w : World) (B size : Nat) (A : Option Addr) (n c : Nat) (xs : List Value) : Prop where
  len : xs.length = n * size
  cap : n ≤ c
  max : c ≤ maxLen
  nil : A = none → c = 0
  rd : Rd w B A xs
section
variable {S : Nat → Prop} {w w' : World} {B B' size n c : Nat} {A : Option Addr} {xs : List Value}
theorem Sl.none_ (w : World) (B size : Nat) : Sl w B size none 0 0 [] := ⟨by simp, Nat.le_refl _, by unfold maxLen; omega, fun _ => rfl, .inl rfl⟩
theorem Sl.below (h : Sl w B size A n c xs) (hb : Below B' w w') (hB : B ≤ B') : Sl w' B size A n c xs := { h with rd := h.rd.below hb hB }
theorem Sl.up (h : Sl w B size A n c xs) (hB : B ≤ B') : Sl w B' size A n c xs := { h with rd := h.rd.up hB }
theorem Sl.tch (h : Sl w B size A n c xs) (ht : Tch S w w') (hB : B ≤ w.heap.size) (hs : ∀ b, b < B → ¬ S b) : Sl w' B size A n c xs := { h with rd := h.rd.tch ht hB hs }
theorem Sl.take (h : Sl w B size A n c xs) {k : Nat} (hk : k ≤ n) : Sl w B size A k c (xs.take (k * size)) :=
  ⟨by rw [List.length_take, h.len]; exact Nat.min_eq_left (Nat.mul_le_mul_right _ hk), Nat.le_trans hk h.cap, h.max, h.nil, h.rd.take _⟩
theorem Sl.drop (h : Sl w B size A n c xs) {k : Nat} (hk : k ≤ n) : Sl w B size (if c = k then A else A.map (·.add (k * size))) (n - k) (c - k) (xs.drop (k * size)) :=
  ⟨by rw [List.length_drop, h.len, Nat.sub_mul], by have := h.cap; omega, by have := h.max; omega, fun ha => by
      split at ha
      · have := h.nil ha; omega
      · have : A = none := by simpa using ha
        have := h.nil this; omega, h.rd.cut h.len hk h.cap⟩
theorem ownBlock_eq (A : Option Addr) (n n' c c' : Nat) : (Value.slice A n c).ownBlock = (Value.slice A n' c').ownBlock := by cases A <;> rfl
theorem own_sl {base : Nat} {e : TypeId} {v : Value} (h : w.ownsRow base e size v n xs) : ∃ A c, v = .slice A n c ∧ Sl w w.heap.size size A n c xs := by
  obtain ⟨A, c, hv, h1, h2, h3⟩ := own_any h
  refine ⟨A, c, hv, h.1, h1, h2, fun ha => ?_, h3⟩
  rcases h.2 with ⟨h0, _⟩ | ⟨g, cap, cur, h0, _⟩
  · rw [h0] at hv; cases hv; rfl
  · rw [h0, ha] at hv; cases hv
end

/-- What the laws on append ask of a slice type t: its element type e, an element's cells and bytes. -/
def SliceT (P : Program) (t e size bytes : Nat) : Prop :=
  P.underlying t = some (.slice e) ∧ 0 < size ∧ ∃ i z, P.info? e = some i ∧ i.zero = some z ∧ i.size = size ∧ i.bytes = bytes ∧ z.cells.size = size
theorem SliceT.mk {P : Program} {t e size bytes : Nat} {z : Value} (ht : P.underlying t = some (.slice e)) (hi : (P.info? e).map (fun i => (i.zero, i.size, i.bytes)) = some (some z, size, bytes))
    (hz : z.cells.size = size) (hs : 0 < size) : SliceT P t e size bytes := by
  obtain ⟨i, h1, h2, h3, h4⟩ := info_parts hi
  exact ⟨ht, hs, i, z, h1, h2, h3, h4, hz⟩

section
variable {P : Program} {ops : Array Oper} {rest : List Oper} {o : Oper} {a : Act} {Q : Exit → Act → World → Prop} {w : World}
/-- 'append(v, x)' of one element, v nil or owned: the element lies in a block of its own. -/
theorem wpList_push (hgd : o.guard = none) (s x : Operand) (t : TypeId) (ho : o.op = .call { callee := .builtin .append, args := #[s, x], argTypes := #[t, t] })
    (base e size bytes : Nat) (T : SliceT P t e size bytes) (v : Value) (n : Nat) (xs : List Value) (hown : w.ownsRow base e size v n xs) (hs : a.eval s = v)
    (g : Nat) (cs : Array Value) (hx : a.eval x = .slice (some ⟨g, 0, none⟩) 1 1) (hg : w.heap[g]? = some (.cells cs e (0, 0))) (hl : cs.size = size) (h1 : ∀ u ∈ cs.toList, u.oneCell' = true)
    (hn : n + 1 ≤ 1000000000000) (hby : bytes ≤ 128) (hbase : base ≤ w.heap.size)
    (h : ∀ v' w', w'.ownsRow base e size v' (n + 1) (xs ++ cs.toList) → Tch (fun k => v.ownBlock = some k) w w' → (v'.ownBlock = v.ownBlock ∨ v'.ownBlock = some w.heap.size) → v' ≠ .slice none 0 0 → wpList P ops Q rest (a.put o.dst v') w') :
    wpList P ops Q (o :: rest) a w := by
  obtain ⟨ht, hsz, i, z, hi, hz, hs1, hb1, hz1⟩ := T
  have hnews : ∀ j u, cs.toList[j]? = some u → w.cell? ((⟨g, 0, none⟩ : Addr).add j) = some u := by
    intro j u hu
    have hadd : (⟨g, 0, none⟩ : Addr).add j = ⟨g, j, none⟩ := by
      unfold Addr.add
      split
      · rename_i h; subst h; rfl
      · simp
    rw [hadd, cell_of_row w g j cs e (0, 0) hg]
    simpa using hu
  have hbb : (n + 1) * bytes ≤ 140737488355328 := by
    have : (n + 1) * bytes ≤ 1000000000000 * 128 := Nat.mul_le_mul hn hby
    omega
  exact wpList_append_own_at w hgd s x t ho base e i z size bytes ht hi hz hs1 hb1 hz1 hsz v n xs hs hown ⟨g, 0, none⟩ 1 1 cs.toList hx (by simp [hl]) hnews h1 (by unfold maxLen; omega) hbb hbase
    (fun v' w' h2 h3 h4 h5 => h v' w' h2 (Tch.of_grown h3) h5 (fun e => by have := (h4.1 e).2; omega))
/-- The same, the bounds laid bare: 'append(v, x)' of one element, v nil or owned: the element lies in a block of its own. -/
theorem wpList_pushB (hgd : o.guard = none) (s x : Operand) (t : TypeId) (ho : o.op = .call { callee := .builtin .append, args := #[s, x], argTypes := #[t, t] })
    (base e size bytes : Nat) (T : SliceT P t e size bytes) (v : Value) (n : Nat) (xs : List Value) (hown : w.ownsRow base e size v n xs) (hs : a.eval s = v)
    (g : Nat) (cs : Array Value) (hx : a.eval x = .slice (some ⟨g, 0, none⟩) 1 1) (hg : w.heap[g]? = some (.cells cs e (0, 0))) (hl : cs.size = size) (h1 : ∀ u ∈ cs.toList, u.oneCell' = true)
    (hn : n + 1 ≤ 9223372036854775807) (hbb : (n + 1) * bytes ≤ 140737488355328) (hbase : base ≤ w.heap.size)
    (h : ∀ v' w', w'.ownsRow base e size v' (n + 1) (xs ++ cs.toList) → Tch (fun k => v.ownBlock = some k) w w' → (v'.ownBlock = v.ownBlock ∨ v'.ownBlock = some w.heap.size) → v' ≠ .slice none 0 0 → wpList P ops Q rest (a.put o.dst v') w') :
    wpList P ops Q (o :: rest) a w := by
  obtain ⟨ht, hsz, i, z, hi, hz, hs1, hb1, hz1⟩ := T
  have hnews : ∀ j u, cs.toList[j]? = some u → w.cell? ((⟨g, 0, none⟩ : Addr).add j) = some u := by
    intro j u hu
    have hadd : (⟨g, 0, none⟩ : Addr).add j = ⟨g, j, none⟩ := by
      unfold Addr.add
      split
      · rename_i h; subst h; rfl
      · simp
    rw [hadd, cell_of_row w g j cs e (0, 0) hg]
    simpa using hu
  exact wpList_append_own_at w hgd s x t ho base e i z size bytes ht hi hz hs1 hb1 hz1 hsz v n xs hs hown ⟨g, 0, none⟩ 1 1 cs.toList hx (by simp [hl]) hnews h1 (by unfold maxLen; omega) hbb hbase
    (fun v' w' h2 h3 h4 h5 => h v' w' h2 (Tch.of_grown h3) h5 (fun e => by have := (h4.1 e).2; omega))
/-- The same in a region that draws its order. -/
theorem step_push {K : Act → World → Prop} {E : Prop} (hgd : o.guard = none) (s x : Operand) (t : TypeId) (ho : o.op = .call { callee := .builtin .append, args := #[s, x], argTypes := #[t, t] })
    (base e size bytes : Nat) (T : SliceT P t e size bytes) (v : Value) (n : Nat) (xs : List Value) (hown : w.ownsRow base e size v n xs) (hs : a.eval s = v)
    (g : Nat) (cs : Array Value) (hx : a.eval x = .slice (some ⟨g, 0, none⟩) 1 1) (hg : w.heap[g]? = some (.cells cs e (0, 0))) (hl : cs.size = size) (h1 : ∀ u ∈ cs.toList, u.oneCell' = true)
    (hn : n + 1 ≤ 1000000000000) (hby : bytes ≤ 128) (hbase : base ≤ w.heap.size)
    (h : ∀ v' w', w'.ownsRow base e size v' (n + 1) (xs ++ cs.toList) → Tch (fun k => v.ownBlock = some k) w w' → (v'.ownBlock = v.ownBlock ∨ v'.ownBlock = some w.heap.size) → v' ≠ .slice none 0 0 → K (a.put o.dst v') w') :
    if Region.wanted o (yielded ops a.tmps) = true then Oper.wp P o a w K Q else E := by
  have hw : Region.wanted o (yielded ops a.tmps) = true := by simp [Region.wanted, hgd]
  rw [if_pos hw]
  obtain ⟨ht, hsz, i, z, hi, hz, hs1, hb1, hz1⟩ := T
  have hnews : ∀ j u, cs.toList[j]? = some u → w.cell? ((⟨g, 0, none⟩ : Addr).add j) = some u := by
    intro j u hu
    have hadd : (⟨g, 0, none⟩ : Addr).add j = ⟨g, j, none⟩ := by
      unfold Addr.add
      split
      · rename_i h; subst h; rfl
      · simp
    rw [hadd, cell_of_row w g j cs e (0, 0) hg]
    simpa using hu
  have hbb : (n + 1) * bytes ≤ 140737488355328 := by
    have : (n + 1) * bytes ≤ 1000000000000 * 128 := Nat.mul_le_mul hn hby
    omega
  obtain ⟨v', w', hr, h2, h3, h4, h5⟩ := run_append_own_at (P := P) w base t o.type e i z size bytes ht hi hz hs1 hb1 hz1 hsz v n xs hown ⟨g, 0, none⟩ 1 1 cs.toList (by simp [hl]) hnews h1 (by unfold maxLen; omega) hbb hbase
  unfold Oper.wp execOp
  simp only [ho, resolve, invoke, builtin, Sem.run_bind, Sem.run_pure, Result.andThen_ok, List.map_toArray, List.map_cons, List.map_nil, hs, hx, hr]
  exact h v' w' h2 (Tch.of_grown h3) h5 (fun e => by have := (h4.1 e).2; omega)
/-- 'append(v, xs...)', v nil or owned, xs whatever: nil, empty or not. -/
theorem wpList_extend (hgd : o.guard = none) (s x : Operand) (t : TypeId) (ho : o.op = .call { callee := .builtin .append, args := #[s, x], argTypes := #[t, t] })
    (base e size bytes : Nat) (T : SliceT P t e size bytes) (v : Value) (n : Nat) (xs : List Value) (hown : w.ownsRow base e size v n xs) (hs : a.eval s = v)
    (B : Nat) (A : Option Addr) (m c : Nat) (news : List Value) (hx : a.eval x = .slice A m c) (hr : Sl w B size A m c news) (h1 : ∀ u ∈ news, u.oneCell' = true)
    (hn : n + m ≤ 1000000000000) (hby : bytes ≤ 128) (hbase : base ≤ w.heap.size)
    (h : ∀ v' w', w'.ownsRow base e size v' (n + m) (xs ++ news) → Tch (fun k => v.ownBlock = some k) w w' → (v'.ownBlock = v.ownBlock ∨ v'.ownBlock = some w.heap.size) → (v' = .slice none 0 0 ↔ v = .slice none 0 0 ∧ m = 0) → wpList P ops Q rest (a.put o.dst v') w') :
    wpList P ops Q (o :: rest) a w := by
  obtain ⟨ht, hsz, i, z, hi, hz, hs1, hb1, hz1⟩ := T
  have hbb : (n + m) * bytes ≤ 140737488355328 := by
    have : (n + m) * bytes ≤ 1000000000000 * 128 := Nat.mul_le_mul hn hby
    omega
  rcases A with _ | ad
  · have hc : c = 0 := hr.nil rfl
    have hm : m = 0 := by have := hr.cap; omega
    subst hc; subst hm
    have hnews : news = [] := List.eq_nil_of_length_eq_zero (by rw [hr.len]; simp)
    subst hnews
    exact wpList_append_own_none hgd s x t ho base e i size ht hi v n xs hs hown hx
      (h v w (by simpa using hown) (Tch.refl _ _) (.inl rfl) (by simp))
  · have hnews : ∀ j u, news[j]? = some u → w.cell? (ad.add j) = some u := by
      intro j u hu
      obtain ⟨b, off, hA, _, hc⟩ := hr.rd.at_ hu
      cases hA
      have hadd : (⟨b, off, none⟩ : Addr).add j = ⟨b, off + j, none⟩ := by
        unfold Addr.add
        split
        · rename_i h; subst h; rfl
        · rfl
      rw [hadd]; exact hc
    exact wpList_append_own_at w hgd s x t ho base e i z size bytes ht hi hz hs1 hb1 hz1 hsz v n xs hs hown ad m c news hx hr.len hnews h1 (by unfold maxLen; omega) hbb hbase
      (fun v' w' h2 h3 h4 h5 => h v' w' h2 (Tch.of_grown h3) h5 h4)
end
end Go.Proofs.Ytfpncpjdmgfkbaa

/- (XLtlP) Formulas as lists of nodes: what is wrong with them, where their parts begin: plain. -/
namespace Go.Proofs.Ytfpncpjdmgfkbaa
open Go.RowKit

structure Nd where
  op : Int
  n : Int
  deriving DecidableEq

def takes (op : Int) : Int :=
  if op = 1 ∨ op = 2 ∨ op = 3 then 0 else if op = 4 ∨ op = 8 ∨ op = 11 ∨ op = 12 then 1
  else if op = 5 ∨ op = 6 ∨ op = 7 ∨ op = 9 ∨ op = 10 then 2 else -1
theorem takes_bd (a : Int) : -1 ≤ takes a ∧ takes a ≤ 2 := by unfold takes; repeat' split <;> omega

/-- What is wrong with a node that has d parts ahead of it. -/
def bad (x : Nd) (d : Nat) : Int :=
  if takes x.op < 0 then 3 else if (d : Int) < takes x.op then 4 else if x.op = 3 ∧ (x.n < 0 ∨ 8 ≤ x.n) then 10 else 0
/-- The first error, and how many parts are left. -/
def scan : List Nd → Nat → Int × Nat
  | [], d => (0, d)
  | x :: r, d => if bad x d = 0 then scan r (d - (takes x.op).toNat + 1) else (bad x d, d)
def wrong (f : List Nd) : Int := if f = [] then 4 else if (scan f 0).1 = 0 then (if 1 < (scan f 0).2 then 5 else 0) else (scan f 0).1

theorem scan_append (l r : List Nd) (d : Nat) : scan (l ++ r) d = if (scan l d).1 = 0 then scan r (scan l d).2 else scan l d := by
  induction l generalizing d with
  | nil => simp [scan]
  | cons x l ih =>
    simp only [List.cons_append, scan]
    split
    · exact ih _
    · rfl
theorem take_snoc {α : Type} (f : List α) (k : Nat) (h : k < f.length) : f.take (k + 1) = f.take k ++ [f[k]] := by
  rw [List.take_succ_eq_append_getElem h]
theorem scan_ok {f : List Nd} {k d : Nat} (hk : k < f.length) (hs : scan (f.take k) 0 = (0, d)) (hb : bad f[k] d = 0) : scan (f.take (k + 1)) 0 = (0, d - (takes f[k].op).toNat + 1) := by
  rw [take_snoc f k hk, scan_append, hs]
  simp [scan, hb]
theorem scan_bad {f : List Nd} {k d : Nat} (hk : k < f.length) (hs : scan (f.take k) 0 = (0, d)) (hb : bad f[k] d ≠ 0) : wrong f = bad f[k] d ∧ (scan f 0).1 = bad f[k] d := by
  have h : scan f 0 = (bad f[k] d, d) := by
    conv => lhs; rw [← List.take_append_drop k f, List.drop_eq_getElem_cons hk, scan_append, hs]
    simp [scan, hb]
  have hne : f ≠ [] := by rintro rfl; simp at hk
  simp [wrong, h, hb, hne]
theorem wrong_end {f : List Nd} {d : Nat} (hne : f ≠ []) (hs : scan f 0 = (0, d)) : wrong f = if 1 < d then 5 else 0 := by simp [wrong, hs, hne]
theorem wrong_nil : wrong [] = 4 := rfl

/-- The stack of where parts begin, and where each begins. -/
def stp (s : List Int × List Int) (x : Nd) : List Int × List Int :=
  let k := (takes x.op).toNat
  let b := if 0 < k then s.1.getD (s.1.length - k) 0 else (s.2.length : Int)
  (s.1.take (s.1.length - k) ++ [b], s.2 ++ [b])
def runs (f : List Nd) : List Int × List Int := f.foldl stp ([], [])
def spans (f : List Nd) : List Int := if wrong f = 0 then (runs f).2 else []

theorem runs_snoc {f : List Nd} {k : Nat} (hk : k < f.length) : runs (f.take (k + 1)) = stp (runs (f.take k)) f[k] := by
  unfold runs; rw [take_snoc f k hk, List.foldl_append]; rfl
theorem runs_len (f : List Nd) : (runs f).2.length = f.length := by
  suffices h : ∀ (l : List Nd) (s : List Int × List Int), (l.foldl stp s).2.length = s.2.length + l.length by have := h f ([], []); simpa [runs] using this
  intro l
  induction l with
  | nil => simp
  | cons x l ih => intro s; rw [List.foldl_cons, ih]; simp [stp]; omega
theorem runs_stack {f : List Nd} {d : Nat} (h : scan f 0 = (0, d)) : (runs f).1.length = d := by
  suffices hh : ∀ (l : List Nd) (s : List Int × List Int) (e : Nat), scan l s.1.length = (0, e) → (l.foldl stp s).1.length = e from hh f ([], []) d h
  intro l
  induction l with
  | nil => intro s e h; simpa [scan] using h
  | cons x l ih =>
    intro s e h
    rw [List.foldl_cons]
    apply ih
    simp only [scan] at h
    split at h
    · rename_i hb
      rw [← h]
      congr 1
      simp only [stp, List.length_append, List.length_take, List.length_cons, List.length_nil]
      omega
    · rename_i hb; simp at h; exact absurd h.1 hb
theorem runs_pos (f : List Nd) : ∀ b ∈ (runs f).2, 0 ≤ b ∧ b < f.length := by
  suffices hh : ∀ (l : List Nd) (s : List Int × List Int) (m : Nat), s.2.length + l.length ≤ m → (∀ b ∈ s.1, 0 ≤ b ∧ b < m) → (∀ b ∈ s.2, 0 ≤ b ∧ b < m) → ∀ b ∈ (l.foldl stp s).2, 0 ≤ b ∧ b < m by
    intro b hb
    exact hh f ([], []) f.length (by simp) (by simp) (by simp) b hb
  intro l
  induction l with
  | nil => intro s m _ _ h; simpa using h
  | cons x l ih =>
    intro s m hm h1 h2
    rw [List.foldl_cons]
    simp only [List.length_cons] at hm
    have hb : 0 ≤ (if 0 < (takes x.op).toNat then s.1.getD (s.1.length - (takes x.op).toNat) 0 else (s.2.length : Int)) ∧ (if 0 < (takes x.op).toNat then s.1.getD (s.1.length - (takes x.op).toNat) 0 else (s.2.length : Int)) < (m : Int) := by
      split
      · by_cases hlt : s.1.length - (takes x.op).toNat < s.1.length
        · have : s.1.getD (s.1.length - (takes x.op).toNat) 0 = s.1[s.1.length - (takes x.op).toNat] := by simp [List.getD, hlt]
          rw [this]
          exact h1 _ (List.getElem_mem _)
        · have : s.1.getD (s.1.length - (takes x.op).toNat) 0 = 0 := by simp [List.getD, hlt]
          omega
      · omega
    refine ih _ m ?_ ?_ ?_
    · simp [stp]; omega
    · intro b hbm
      simp only [stp, List.mem_append, List.mem_singleton] at hbm
      rcases hbm with hbm | rfl
      · exact h1 _ (List.mem_of_mem_take hbm)
      · exact hb
    · intro b hbm
      simp only [stp, List.mem_append, List.mem_singleton] at hbm
      rcases hbm with hbm | rfl
      · exact h2 _ hbm
      · exact hb

theorem spans_len {f : List Nd} (h : wrong f = 0) : (spans f).length = f.length := by simp [spans, h, runs_len]
theorem spans_nil_iff (f : List Nd) : spans f = [] ↔ wrong f ≠ 0 := by
  by_cases h : wrong f = 0
  · have hl := spans_len h
    have hne : f ≠ [] := by rintro rfl; simp [wrong_nil] at h
    simp only [h, ne_eq, not_true_eq_false, iff_false]
    rintro h0
    rw [h0] at hl
    exact hne (List.eq_nil_of_length_eq_zero (by simpa using hl.symm))
  · simp [spans, h]
theorem wrong_run {f : List Nd} (hne : f ≠ []) : wrong f = if (scan f 0).1 = 0 then (if 1 < (runs f).1.length then 5 else 0) else (scan f 0).1 := by
  unfold wrong
  rw [if_neg hne]
  split
  · rename_i h
    rw [runs_stack (f := f) (d := (scan f 0).2) (by rw [← h])]
  · rfl
/-- A formula's nodes are all good where they stand. -/
theorem good_at {f : List Nd} (h : wrong f = 0) {k : Nat} (hk : k < f.length) : scan (f.take k) 0 = (0, (runs (f.take k)).1.length) ∧ bad f[k] (runs (f.take k)).1.length = 0 := by
  have hne : f ≠ [] := by rintro rfl; simp at hk
  have hs : (scan f 0).1 = 0 := by
    unfold wrong at h
    rw [if_neg hne] at h
    split at h
    · assumption
    · exact h
  have hsp : f = f.take k ++ (f[k] :: f.drop (k + 1)) := by rw [← List.drop_eq_getElem_cons hk, List.take_append_drop]
  have h1 : (scan (f.take k) 0).1 = 0 := by
    rw [hsp, scan_append] at hs
    split at hs
    · assumption
    · exact hs
  have h2 : scan (f.take k) 0 = (0, (scan (f.take k) 0).2) := by rw [← h1]
  have h3 := runs_stack h2
  refine ⟨by rw [h3]; exact h2, ?_⟩
  rw [h3]
  rw [hsp, scan_append, if_pos h1] at hs
  simp only [scan] at hs
  split at hs
  · assumption
  · exact hs
theorem good_takes {x : Nd} {d : Nat} (h : bad x d = 0) : 0 ≤ takes x.op ∧ takes x.op ≤ (d : Int) ∧ (x.op = 3 → 0 ≤ x.n ∧ x.n < 8) := by
  unfold bad at h
  split at h
  · omega
  · split at h
    · omega
    · split at h
      · omega
      · refine ⟨by omega, by omega, fun h3 => ?_⟩; omega
theorem runs1_le (f : List Nd) : (runs f).1.length ≤ f.length := by
  suffices hh : ∀ (l : List Nd) (s : List Int × List Int) , (l.foldl stp s).1.length ≤ s.1.length + l.length by have := hh f ([], []); simpa [runs] using this
  intro l
  induction l with
  | nil => simp
  | cons x l ih =>
    intro s
    rw [List.foldl_cons]
    have := ih (stp s x)
    have h2 : (stp s x).1.length ≤ s.1.length + 1 := by simp only [stp, List.length_append, List.length_take, List.length_cons, List.length_nil]; omega
    simp only [List.length_cons]
    omega
/-- The parts of a node. -/
def kids (f : List Nd) (at_ : Int) : Int × Int :=
  if wrong f = 0 ∧ 0 ≤ at_ ∧ at_ < f.length then
    if takes (f[at_.toNat]?.getD ⟨0, 0⟩).op = 1 then (at_ - 1, -1)
    else if takes (f[at_.toNat]?.getD ⟨0, 0⟩).op = 2 then ((spans f)[(at_ - 1).toNat]?.getD 0 - 1, at_ - 1) else (-1, -1)
  else (-1, -1)
theorem kids_out {f : List Nd} {at_ : Int} (h : ¬ (wrong f = 0 ∧ 0 ≤ at_ ∧ at_ < f.length)) : kids f at_ = (-1, -1) := by unfold kids; rw [if_neg h]
theorem kids_at {f : List Nd} {k : Nat} (h : wrong f = 0) (hk : k < f.length) :
    kids f k = if takes f[k].op = 1 then ((k : Int) - 1, -1) else if takes f[k].op = 2 then ((spans f)[k - 1]?.getD 0 - 1, (k : Int) - 1) else (-1, -1) := by
  unfold kids
  rw [if_pos ⟨h, by omega, by omega⟩]
  have e : ((k : Int) - 1).toNat = k - 1 := by omega
  simp [hk, e]

/-- The cells of nodes. -/
def ncells (f : List Nd) : List Value := f.flatMap fun x => [.int .i64 x.op, .int .i64 x.n]
theorem ncells_len (f : List Nd) : (ncells f).length = f.length * 2 := by
  induction f with
  | nil => rfl
  | cons x r ih => simp [ncells] at ih ⊢; omega
theorem ncells0 (f : List Nd) (k : Nat) : (ncells f)[k * 2]? = f[k]?.map fun x => .int .i64 x.op := by
  induction f generalizing k with
  | nil => simp [ncells]
  | cons x r ih => cases k with
    | zero => simp [ncells]
    | succ k => have := ih k; simp [ncells, Nat.succ_mul] at this ⊢; exact this
theorem ncells1 (f : List Nd) (k : Nat) : (ncells f)[k * 2 + 1]? = f[k]?.map fun x => .int .i64 x.n := by
  induction f generalizing k with
  | nil => simp [ncells]
  | cons x r ih => cases k with
    | zero => simp [ncells]
    | succ k => have := ih k; simp [ncells, Nat.succ_mul] at this ⊢; exact this
theorem ncells_append (f g : List Nd) : ncells (f ++ g) = ncells f ++ ncells g := by simp [ncells]
theorem ncells_one (f : List Nd) : ∀ u ∈ ncells f, u.oneCell' = true := by
  intro u hu
  simp only [ncells, List.mem_flatMap, List.mem_cons, List.not_mem_nil, or_false] at hu
  obtain ⟨x, _, rfl | rfl⟩ := hu <;> rfl
theorem rd_nd {w : World} {B : Nat} {A : Option Addr} {f : List Nd} (h : Rd w B A (ncells f)) {k : Nat} (hk : k < f.length) :
    ∃ b off, A = some ⟨b, off, none⟩ ∧ b < B ∧ w.cell? ⟨b, off + k * 2, none⟩ = some (.int .i64 f[k].op) ∧ w.cell? ⟨b, off + k * 2 + 1, none⟩ = some (.int .i64 f[k].n) := by
  rcases h with h | ⟨b, off, hA, hb, hc⟩
  · have := ncells0 f k; rw [h] at this; simp [hk] at this
  · exact ⟨b, off, hA, hb, hc _ _ (by rw [ncells0]; simp [hk]), by rw [Nat.add_assoc]; exact hc _ _ (by rw [ncells1]; simp [hk])⟩
/-- The cells of numbers. -/
def icells (l : List Int) : List Value := l.map (.int .i64)
theorem icells_len (l : List Int) : (icells l).length = l.length * 1 := by simp [icells]
theorem icells_one (l : List Int) : ∀ u ∈ icells l, u.oneCell' = true := by
  intro u hu
  simp only [icells, List.mem_map] at hu
  obtain ⟨x, _, rfl⟩ := hu
  rfl
theorem icells_append (l m : List Int) : icells (l ++ m) = icells l ++ icells m := by simp [icells]
theorem icells_drop (l : List Int) (k : Nat) : icells (l.drop k) = (icells l).drop (k * 1) := by simp [icells]
theorem icells_take (l : List Int) (k : Nat) : icells (l.take k) = (icells l).take (k * 1) := by simp [icells]
theorem rd_int {w : World} {B : Nat} {A : Option Addr} {l : List Int} (h : Rd w B A (icells l)) {k : Nat} (hk : k < l.length) :
    ∃ b off, A = some ⟨b, off, none⟩ ∧ b < B ∧ w.cell? ⟨b, off + k, none⟩ = some (.int .i64 l[k]) := by
  exact h.at_ (by simp [icells, hk])

/-- The propositions, as bits. -/
def propsF (f : List Nd) : Nat := f.foldl (fun u x => if x.op = 3 then u ||| 2 ^ x.n.toNat else u) 0
def props (f : List Nd) : Nat := if wrong f = 0 then propsF f else 0
theorem propsF_snoc {f : List Nd} {k : Nat} (hk : k < f.length) : propsF (f.take (k + 1)) = if f[k].op = 3 then propsF (f.take k) ||| 2 ^ f[k].n.toNat else propsF (f.take k) := by
  unfold propsF; rw [take_snoc f k hk, List.foldl_append]; rfl
theorem or_step {u : Nat} {n : Int} (hu : u < 256) (h0 : 0 ≤ n) (h8 : n < 8) : bits .or .u64 (u : Int) (IntKind.u64.wrap (2 ^ n.toNat)) = ((u ||| 2 ^ n.toNat : Nat) : Int) ∧ (u ||| 2 ^ n.toNat) < 256 := by
  obtain ⟨m, rfl⟩ := Int.eq_ofNat_of_zero_le h0
  have hm : m < 8 := by omega
  have e : IntKind.u64.wrap (2 ^ ((m : Int)).toNat) = ((2 ^ m : Nat) : Int) := by
    have hp : 2 ^ m ≤ 2 ^ 7 := Nat.pow_le_pow_right (by omega) (by omega)
    rw [Int.toNat_natCast, IntKind.wrap_u64]
    have e2 : (2 : Int) ^ m = ((2 ^ m : Nat) : Int) := by simp
    rw [e2]
    generalize 2 ^ m = c at hp ⊢
    omega
  have h2 : 2 ^ m < 2 ^ 8 := Nat.pow_lt_pow_right (by omega) hm
  have hor : u ||| 2 ^ m < 2 ^ 8 := Nat.or_lt_two_pow (by omega) h2
  refine ⟨?_, by simpa using hor⟩
  rw [e, Int.toNat_natCast]
  show IntKind.u64.wrap ((BitVec.ofInt 64 (u : Int) ||| BitVec.ofInt 64 ((2 ^ m : Nat) : Int)).toNat : Int) = _
  rw [BitVec.toNat_or, BitVec.ofInt_natCast, BitVec.toNat_ofNat, BitVec.ofInt_natCast, BitVec.toNat_ofNat, Nat.mod_eq_of_lt (by omega), Nat.mod_eq_of_lt (by omega), IntKind.wrap_u64]
  omega
/-- The nodes that are untils, from number i on. -/
def utl : Nat → List Nd → List Int
  | _, [] => []
  | i, x :: r => if x.op = 9 then (i : Int) :: utl (i + 1) r else utl (i + 1) r
def untils (f : List Nd) : List Int := if wrong f = 0 then utl 0 f else []
theorem utl_append (l : List Nd) (x : Nd) : ∀ i, utl i (l ++ [x]) = utl i l ++ if x.op = 9 then [((i + l.length : Nat) : Int)] else [] := by
  induction l with
  | nil => intro i; simp [utl]
  | cons y l ih =>
    intro i
    simp only [List.cons_append, utl, ih]
    have e : i + 1 + l.length = i + (y :: l).length := by simp; omega
    split <;> simp [e]
theorem utl_snoc {f : List Nd} {k : Nat} (hk : k < f.length) : utl 0 (f.take (k + 1)) = utl 0 (f.take k) ++ if f[k].op = 9 then [(k : Int)] else [] := by
  rw [take_snoc f k hk, utl_append]
  simp [List.length_take, Nat.min_eq_left (Nat.le_of_lt hk)]
theorem utl_len (l : List Nd) : ∀ i, (utl i l).length ≤ l.length := by
  induction l with
  | nil => simp [utl]
  | cons x l ih => intro i; simp only [utl]; have := ih (i + 1); split <;> simp <;> omega
def hasNext (f : List Nd) : Bool := f.any fun x => x.op == 8
def neg (f : List Nd) : List Nd := if wrong f = 0 then f ++ [⟨4, 0⟩] else []
end Go.Proofs.Ytfpncpjdmgfkbaa

/- (XPost) What functions leave: words for the ends of walks. -/
namespace Go.Proofs.Ytfpncpjdmgfkbaa
open Go.RowKit

/-- What a function leaves that answers a new row. -/
def NewRow (w : World) (e size n : Nat) (xs : List Value) (nil : Prop) (en : Ending) (w' : World) : Prop :=
  ∃ v, en = .returned v ∧ w'.ownsRow w.heap.size e size v n xs ∧ Below w.heap.size w w' ∧ (v = .slice none 0 0 ↔ nil)

/-- What a call leaves that answers an int in memory that has only grown. -/
def Num (w : World) (k : Int) (en : Ending) (w' : World) : Prop := en = .returned (.int .i64 k) ∧ Below w.heap.size w w'

/-- Two numbers, in memory that has only grown. -/
def Num2 (w : World) (p : Int × Int) (en : Ending) (w' : World) : Prop := en = .returned (.tuple #[.int .i64 p.1, .int .i64 p.2]) ∧ Below w.heap.size w w'

theorem num2_of {w w' : World} {p : Int × Int} {a b : Int} (h : p = (a, b)) (hb : Below w.heap.size w w') : Num2 w p (.returned (.tuple #[.int .i64 a, .int .i64 b])) w' := ⟨by rw [h], hb⟩

/-- A number of 64 bits without sign, in memory that has only grown. -/
def NumU (w : World) (k : Int) (en : Ending) (w' : World) : Prop := en = .returned (.int .u64 k) ∧ Below w.heap.size w w'

/-- The world but for draws, and a bool. -/
def Said (w : World) (b : Bool) (en : Ending) (w' : World) : Prop := en = .returned (.bool b) ∧ ∃ n, w' = w.drewN n

/-- A bool, in memory that has only grown. -/
def Tru (w : World) (b : Bool) (en : Ending) (w' : World) : Prop := en = .returned (.bool b) ∧ Below w.heap.size w w'

/-- A number that is not below 0 just if there is one. -/
def Fnd (w : World) (b : Bool) (en : Ending) (w' : World) : Prop := ∃ k : Int, en = .returned (.int .i64 k) ∧ -1 ≤ k ∧ k ≤ 9223372036854775807 ∧ Below w.heap.size w w' ∧ decide (0 ≤ k) = b
end Go.Proofs.Ytfpncpjdmgfkbaa

/- (XLtlQ) Where parts begin: how they lie side by side. Plain. -/
namespace Go.Proofs.Ytfpncpjdmgfkbaa

/-- Parts that lie side by side, from place i down to 0: the begins of a stack, the top first. -/
def Chain (o : List Int) : Nat → List Int → Prop
  | i, [] => i = 0
  | i, b :: r => ∃ k : Nat, b = k ∧ k < i ∧ o[i - 1]? = some b ∧ Chain o k r
theorem Chain.more {o : List Int} (x : Int) : ∀ (r : List Int) (i : Nat), i ≤ o.length → Chain o i r → Chain (o ++ [x]) i r
  | [], i, _, h => h
  | b :: r, i, hi, ⟨k, hb, hk, ho, hc⟩ => ⟨k, hb, hk, by rw [List.getElem?_append_left (by omega)]; exact ho, Chain.more x r k (by omega) hc⟩

theorem runs2_take (f : List Nd) : ∀ k, (runs (f.take k)).2 = (runs f).2.take k := by
  intro k
  have h : ∀ (l : List Nd) (s : List Int × List Int), s.2 = (l.foldl stp s).2.take s.2.length := by
    intro l
    induction l with
    | nil => intro s; simp
    | cons x l ih =>
      intro s
      rw [List.foldl_cons]
      have := ih (stp s x)
      have hl : (stp s x).2.length = s.2.length + 1 := by simp [stp]
      have h2 : s.2 = (stp s x).2.take s.2.length := by simp [stp]
      rw [hl] at this
      conv => lhs; rw [h2, this]
      rw [List.take_take, Nat.min_eq_left (by omega)]
  have h1 := h (f.drop k) (runs (f.take k))
  have h2 : (f.drop k).foldl stp (runs (f.take k)) = runs f := by
    unfold runs
    rw [← List.foldl_append, List.take_append_drop]
  rw [h2, runs_len] at h1
  rw [h1]
  by_cases hk : k ≤ f.length
  · rw [List.length_take, Nat.min_eq_left hk]
  · rw [List.length_take, Nat.min_eq_right (by omega), List.take_of_length_le (by rw [runs_len]; exact Nat.le_refl _), List.take_of_length_le (by rw [runs_len]; omega)]

/-- What a node's begin, and the begins ahead of it, have to do with one another. -/
def Lies (s : List Int) (x : Nd) (i : Nat) : Prop :=
  (takes x.op = 0 ∧ s[i]? = some (i : Int)) ∨
  (takes x.op = 1 ∧ 1 ≤ i ∧ ∃ v : Nat, v < i ∧ s[i]? = some (v : Int) ∧ s[i - 1]? = some (v : Int)) ∨
  (takes x.op = 2 ∧ 2 ≤ i ∧ ∃ v a : Nat, v ≤ a ∧ a + 1 < i ∧ s[i]? = some (v : Int) ∧ s[i - 1]? = some ((a : Int) + 1) ∧ s[a]? = some (v : Int))

theorem chain_step {st o : List Int} {x : Nd} {i : Nat} (hi : o.length = i) (hc : Chain o i st.reverse) (hb : bad x st.length = 0) :
    Chain (stp (st, o) x).2 (i + 1) (stp (st, o) x).1.reverse ∧ Lies (stp (st, o) x).2 x i := by
  obtain ⟨h0, hle, _⟩ := good_takes hb
  have hbd := takes_bd x.op
  have ht : takes x.op = 0 ∨ takes x.op = 1 ∨ takes x.op = 2 := by omega
  rcases ht with ht | ht | ht
  · have e : stp (st, o) x = (st ++ [(i : Int)], o ++ [(i : Int)]) := by simp [stp, ht, hi]
    rw [e]
    refine ⟨?_, .inl ⟨ht, by simp [hi]⟩⟩
    simp only [List.reverse_append, List.reverse_cons, List.reverse_nil, List.nil_append, List.singleton_append]
    exact ⟨i, rfl, by omega, by simp [hi], Chain.more _ _ _ (by omega) hc⟩
  · obtain ⟨st', c, rfl⟩ : ∃ st' c, st = st' ++ [c] := by
      have hne : st ≠ [] := by rintro rfl; simp [ht] at hle
      exact ⟨st.dropLast, st.getLast hne, (List.dropLast_concat_getLast hne).symm⟩
    have e : stp (st' ++ [c], o) x = (st' ++ [c], o ++ [c]) := by simp [stp, ht]
    rw [e]
    simp only [List.reverse_append, List.reverse_cons, List.reverse_nil, List.nil_append, List.singleton_append] at hc ⊢
    obtain ⟨k, hk, hki, ho, hr⟩ := hc
    refine ⟨⟨k, hk, by omega, by simp [← hi], Chain.more _ _ _ (by omega) hr⟩, .inr (.inl ⟨ht, by omega, k, hki, by rw [← hk]; simp [← hi], ?_⟩)⟩
    rw [← hk, List.getElem?_append_left (by omega)]; exact ho
  · obtain ⟨st', c, d, rfl⟩ : ∃ st' c d, st = st' ++ [c, d] := by
      have h2 : 2 ≤ st.length := by omega
      refine ⟨st.take (st.length - 2), st[st.length - 2], st[st.length - 1], ?_⟩
      conv => lhs; rw [← List.take_append_drop (st.length - 2) st]
      congr 1
      rw [List.drop_eq_getElem_cons (by omega)]
      congr 1
      have : st.length - 2 + 1 = st.length - 1 := by omega
      rw [this, List.drop_eq_getElem_cons (by omega), List.drop_eq_nil_of_le (by omega)]
    have e : stp (st' ++ [c, d], o) x = (st' ++ [c], o ++ [c]) := by
      have h1 : (st' ++ [c, d]).length - 2 = st'.length := by simp
      simp [stp, ht]
    rw [e]
    simp only [List.reverse_append, List.reverse_cons, List.reverse_nil, List.nil_append, List.cons_append] at hc ⊢
    obtain ⟨kd, hkd, hkdi, hod, kc, hkc, hkcd, hoc, hr⟩ := hc
    refine ⟨⟨kc, hkc, by omega, by simp [← hi], Chain.more _ _ _ (by omega) hr⟩, .inr (.inr ⟨ht, by omega, kc, kd - 1, by omega, by omega, by rw [← hkc]; simp [← hi], ?_, ?_⟩)⟩
    · rw [List.getElem?_append_left (by omega), hod, hkd]; congr 1; omega
    · rw [← hkc, List.getElem?_append_left (by omega)]; exact hoc

theorem chain_all {f : List Nd} (hw : wrong f = 0) : ∀ k, k ≤ f.length → Chain (runs (f.take k)).2 k (runs (f.take k)).1.reverse := by
  intro k
  induction k with
  | zero => intro _; simp [runs, Chain]
  | succ k ih =>
    intro hk
    have hkl : k < f.length := by omega
    rw [runs_snoc hkl]
    have hl : (runs (f.take k)).2.length = k := by rw [runs_len, List.length_take]; omega
    exact (chain_step (st := (runs (f.take k)).1) (o := (runs (f.take k)).2) hl (ih (by omega)) (good_at hw hkl).2).1

theorem lies_all {f : List Nd} (hw : wrong f = 0) {k : Nat} (hk : k < f.length) : Lies (spans f) f[k] k := by
  have hl : (runs (f.take k)).2.length = k := by rw [runs_len, List.length_take]; omega
  have h := (chain_step (st := (runs (f.take k)).1) (o := (runs (f.take k)).2) hl (chain_all hw k (by omega)) (good_at hw hk).2).2
  have e : (stp ((runs (f.take k)).1, (runs (f.take k)).2) f[k]).2 = (runs (f.take (k + 1))).2 := by rw [runs_snoc hk]
  rw [e, runs2_take] at h
  have hs : spans f = (runs f).2 := by simp [spans, hw]
  rw [hs]
  have up : ∀ j v, j ≤ k → ((runs f).2.take (k + 1))[j]? = some v → (runs f).2[j]? = some v := by
    intro j v hj hjv
    rw [List.getElem?_take, if_pos (by omega)] at hjv
    exact hjv
  rcases h with ⟨a, b⟩ | ⟨a, b, v, c, d, e⟩ | ⟨a, b, v, q, c, d, e, g, h⟩
  · exact .inl ⟨a, up _ _ (Nat.le_refl _) b⟩
  · exact .inr (.inl ⟨a, b, v, c, up _ _ (Nat.le_refl _) d, up _ _ (by omega) e⟩)
  · exact .inr (.inr ⟨a, b, v, q, c, d, up _ _ (Nat.le_refl _) e, up _ _ (by omega) g, up _ _ (by omega) h⟩)

theorem last_zero {f : List Nd} (hw : wrong f = 0) : 0 < f.length ∧ (spans f)[f.length - 1]? = some 0 := by
  have hne : f ≠ [] := by rintro rfl; simp [wrong_nil] at hw
  have hpos : 0 < f.length := List.length_pos_iff.2 hne
  refine ⟨hpos, ?_⟩
  have hs : spans f = (runs f).2 := by simp [spans, hw]
  have hc := chain_all hw f.length (Nat.le_refl _)
  rw [List.take_of_length_le (Nat.le_refl _)] at hc
  have h1 : (runs f).1.length ≤ 1 := by
    rw [wrong_run hne] at hw
    split at hw
    · split at hw
      · omega
      · omega
    · rename_i h; exact absurd hw h
  rw [hs]
  match h : (runs f).1.reverse, hc with
  | [], hc => simp only [Chain] at hc; omega
  | [b], hc =>
    obtain ⟨k, hb, _, ho, h0⟩ := hc
    simp only [Chain] at h0
    subst h0
    rw [ho, hb]; rfl
  | b :: c :: r, _ =>
    have := congrArg List.length h
    simp at this
    omega
end Go.Proofs.Ytfpncpjdmgfkbaa

/- (XLtlP2) What is wrong with a node, in the forms that walks want. Plain. -/
namespace Go.Proofs.Ytfpncpjdmgfkbaa
open Go.RowKit

theorem bad_form {x : Nd} {d : Nat} (h : takes x.op < 0) : bad x d = 3 := by simp [bad, h]

theorem bad_short {x : Nd} {d : Nat} (h : 0 ≤ takes x.op) (h2 : (d : Int) < takes x.op) : bad x d = 4 := by
  unfold bad; rw [if_neg (by omega), if_pos h2]

theorem bad_range {x : Nd} {d : Nat} (h : 0 ≤ takes x.op) (h2 : takes x.op ≤ (d : Int)) (h3 : x.op = 3) (h4 : x.n < 0 ∨ 8 ≤ x.n) : bad x d = 10 := by
  unfold bad; rw [if_neg (by omega), if_neg (by omega), if_pos ⟨h3, h4⟩]

theorem bad_none {x : Nd} {d : Nat} (h : 0 ≤ takes x.op) (h2 : takes x.op ≤ (d : Int)) (h3 : x.op ≠ 3 ∨ 0 ≤ x.n ∧ x.n < 8) : bad x d = 0 := by
  unfold bad; rw [if_neg (by omega), if_neg (by omega), if_neg (by omega)]

theorem takes3 : takes 3 = 0 := rfl

/-- Where a part begins, of what its own parts are. -/
def frm (at_ : Int) (parts : List Int) : Int := parts.headD at_

theorem stp_frm (s : List Int × List Int) (x : Nd) (h : takes x.op ≤ (s.1.length : Int)) (_h0 : 0 ≤ takes x.op) :
    stp s x = (s.1.take (s.1.length - (takes x.op).toNat) ++ [frm s.2.length (s.1.drop (s.1.length - (takes x.op).toNat))], s.2 ++ [frm s.2.length (s.1.drop (s.1.length - (takes x.op).toNat))]) := by
  have e : (if 0 < (takes x.op).toNat then s.1.getD (s.1.length - (takes x.op).toNat) 0 else (s.2.length : Int)) = frm s.2.length (s.1.drop (s.1.length - (takes x.op).toNat)) := by
    unfold frm
    split
    · rename_i hp
      have hlt : s.1.length - (takes x.op).toNat < s.1.length := by omega
      rw [List.drop_eq_getElem_cons hlt]
      simp [List.getD, hlt]
    · rename_i hp
      have : (takes x.op).toNat = 0 := by omega
      rw [this]
      simp
  simp only [stp, e]

theorem frm_pos {st : List Int} {k j : Nat} (hj : j < st.length) : frm k (st.drop j) = st[j] := by
  unfold frm; rw [List.drop_eq_getElem_cons hj]; rfl

theorem frm_none {st : List Int} {k j : Nat} (hj : st.length ≤ j) : frm k (st.drop j) = k := by
  unfold frm; rw [List.drop_eq_nil_of_le hj]; rfl

theorem takes_012 {x : Int} (h : 0 ≤ takes x) : takes x = 0 ∨ takes x = 1 ∨ takes x = 2 := by have := takes_bd x; omega

/-- P23.1. -/
def check (f : List Nd) : Int := if 24 < f.length then 5 else wrong f

/-- P23.2. -/
def nextF (f : List Nd) : Bool := wrong f == 0 && hasNext f

theorem any_take_snoc {f : List Nd} {k : Nat} (hk : k < f.length) (p : Nd → Bool) : (f.take (k + 1)).any p = ((f.take k).any p || p f[k]) := by
  rw [take_snoc f k hk, List.any_append]; simp

theorem spans_le (f : List Nd) : (spans f).length ≤ f.length := by
  by_cases hw : wrong f = 0
  · rw [spans_len hw]; exact Nat.le_refl _
  · rw [(spans_nil_iff f).2 hw]; simp

theorem untils_le (f : List Nd) : (untils f).length ≤ f.length := by
  unfold untils
  split
  · exact utl_len f 0
  · simp

theorem neg_le (f : List Nd) : (neg f).length ≤ f.length + 1 := by
  unfold neg
  split <;> simp

theorem scan_good {f : List Nd} (hw : wrong f = 0) : scan f 0 = (0, 1) := by
  obtain ⟨hpos, _⟩ := last_zero hw
  have hne : f ≠ [] := by rintro rfl; simp at hpos
  have h0 : (scan f 0).1 = 0 := by
    unfold wrong at hw
    rw [if_neg hne] at hw
    split at hw
    · assumption
    · exact hw
  have hl := runs_stack (f := f) (d := (scan f 0).2) (by rw [← h0])
  have hle : ¬ 1 < (runs f).1.length := by
    rw [wrong_run hne, if_pos h0] at hw
    split at hw
    · omega
    · assumption
  have hge : (runs f).1 ≠ [] := by
    obtain ⟨n, hn⟩ : ∃ n, f.length = n + 1 := ⟨f.length - 1, by omega⟩
    have : runs f = stp (runs (f.take n)) (f[n]'(by omega)) := by rw [← runs_snoc (by omega), ← hn, List.take_of_length_le (Nat.le_refl _)]
    rw [this]
    simp [stp]
  have := List.length_pos_iff.2 hge
  have h2 : (scan f 0).2 = 1 := by omega
  rw [← h0, ← h2]

theorem neg_good {f : List Nd} (hw : wrong f = 0) : wrong (f ++ [⟨4, 0⟩]) = 0 := by
  have h : scan (f ++ [⟨4, 0⟩]) 0 = (0, 1) := by
    rw [scan_append, scan_good hw]
    decide
  rw [wrong_end (by simp) h]
  decide

theorem props_neg {f : List Nd} (hw : wrong f = 0) : props (f ++ [⟨4, 0⟩]) = props f := by
  rw [props, props, if_pos (neg_good hw), if_pos hw]
  simp [propsF]

theorem untils_neg {f : List Nd} (hw : wrong f = 0) : untils (f ++ [⟨4, 0⟩]) = untils f := by
  rw [untils, untils, if_pos (neg_good hw), if_pos hw, utl_append]
  simp

theorem next_neg {f : List Nd} (hw : wrong f = 0) : nextF (f ++ [⟨4, 0⟩]) = nextF f := by
  rw [nextF, nextF, neg_good hw, hw]
  simp [hasNext]

theorem kids_neg {f : List Nd} (hw : wrong f = 0) : kids (f ++ [⟨4, 0⟩]) f.length = ((f.length : Int) - 1, -1) := by
  rw [kids_at (neg_good hw) (by simp)]
  simp [takes]

theorem take_eq_snoc {α : Type} {xs ys : List α} {k : Nat} (h : xs.take k = ys.take k) (hx : k < xs.length) (hy : k < ys.length) (he : xs[k] = ys[k]) : xs.take (k + 1) = ys.take (k + 1) := by
  rw [take_snoc xs k hx, take_snoc ys k hy, h, he]
end Go.Proofs.Ytfpncpjdmgfkbaa
