/- Texts of one kind, in one file. -/
import Derived.WalkKit
import Derived.WalkSpells
import Derived.WalkLawsBesides
import Derived.Lib.Hide
import Derived.Deep.QuietTactic
import Derived.BigQuiet
import Derived.Maps.AppendAt
import Derived.Deep.Draws
import Derived.Laws.AppendOwnNone
/- (XBase) Words for memory: what reads as a list, what a call has touched, rows that a call owns. No program in sight. -/
namespace Go.Proofs.YtamhjgkigjpbhaaDoor
open Go.RowKit

theorem ret_int {k : IntKind} {a b : Int} (h : a = b) : Ending.returned (.int k a) = .returned (.int k b) := by rw [h]
theorem ret_bool {a b : Bool} (h : a = b) : Ending.returned (.bool a) = .returned (.bool b) := by rw [h]
theorem ret_two {k : IntKind} {v : Value} {a b : Int} (h : a = b) : Ending.returned (.tuple #[v, .int k a]) = .returned (.tuple #[v, .int k b]) := by rw [h]
/-- The cells xs lie at A, in a block below B. -/
def Rd (w : World) (B : Nat) (A : Option Addr) (xs : List Value) : Prop :=
  xs = [] ∨ ∃ b off, A = some ⟨b, off, none⟩ ∧ b < B ∧ ∀ j u, xs[j]? = some u → w.cell? ⟨b, off + j, none⟩ = some u

/-- From w to w' no old block outside S has turned. -/
structure Tch (S : Nat → Prop) (w w' : World) : Prop where
  os : w'.os = w.os
  tape : w'.tape = w.tape
  output : w'.output = w.output
  size : w.heap.size ≤ w'.heap.size
  block : ∀ k, k < w.heap.size → ¬ S k → w'.heap[k]? = w.heap[k]?

section
variable {S S' : Nat → Prop} {w w' w1 w2 : World} {B B' : Nat} {A : Option Addr} {xs : List Value}

theorem Tch.refl (S : Nat → Prop) (w : World) : Tch S w w := ⟨rfl, rfl, rfl, Nat.le_refl _, fun _ _ _ => rfl⟩
theorem Tch.trans (h : Tch S w w1) (k : Tch S' w1 w2) (hs : ∀ i, i < w.heap.size → S' i → S i) : Tch S w w2 :=
  ⟨k.os.trans h.os, k.tape.trans h.tape, k.output.trans h.output, Nat.le_trans h.size k.size,
    fun i hi hn => (k.block i (Nat.lt_of_lt_of_le hi h.size) (fun hs' => hn (hs i hi hs'))).trans (h.block i hi hn)⟩
theorem Tch.mono (h : Tch S w w') (hs : ∀ i, i < w.heap.size → S i → S' i) : Tch S' w w' :=
  ⟨h.os, h.tape, h.output, h.size, fun i hi hn => h.block i hi (fun h' => hn (hs i hi h'))⟩
theorem Tch.drewN (h : Tch S w w') (n : Nat) : Tch S w (w'.drewN n) := ⟨h.os, h.tape, h.output, h.size, h.block⟩
theorem Tch.undrew (h : Tch S w.drew w') : Tch S w w' := ⟨h.os, h.tape, h.output, h.size, h.block⟩
theorem Tch.alloc (h : Tch S w w') (o : Obj) : Tch S w (w'.alloc o) :=
  ⟨h.os, h.tape, h.output, Nat.le_trans h.size (by simp), fun i hi hn => (Below.heap_alloc w' o i (Nat.lt_of_lt_of_le hi h.size)).trans (h.block i hi hn)⟩
theorem Tch.setCell (h : Tch S w w') {p : Addr} (hp : p.block < w.heap.size → S p.block) (u : Value) : Tch S w (w'.setCell p u) :=
  ⟨h.os, h.tape, h.output, by simpa [World.setCell] using h.size, fun i hi hn => (Below.heap_setCell w' p u i (fun e => hn (e ▸ hp (e ▸ hi)))).trans (h.block i hi hn)⟩
theorem Tch.of_grown {row : Option Nat} (h : w.grownBy w' row) : Tch (fun k => row = some k) w w' :=
  ⟨h.os, h.tape, h.output, h.size, fun i hi hn => h.block i hi (fun e => hn e.symm)⟩
theorem Tch.of_below (h : Below B w w') : Tch (fun k => B ≤ k) w w' := ⟨h.os, h.tape, h.output, h.size, fun i _ hn => h.block i (by omega)⟩
theorem Tch.below (h : Tch S w w') (hB : B ≤ w.heap.size) (hs : ∀ k, k < B → ¬ S k) : Below B w w' :=
  ⟨h.os, h.tape, h.output, h.size, fun k hk => h.block k (by omega) (hs k hk)⟩
theorem Tch.blk (h : Tch S w w') {g : Nat} {o : Obj} (hg : w.heap[g]? = some o) (hn : ¬ S g) : w'.heap[g]? = some o :=
  (h.block g (lt_of_heap hg) hn).trans hg
where lt_of_heap {w : World} {g : Nat} {o : Obj} (h : w.heap[g]? = some o) : g < w.heap.size := (Array.getElem?_eq_some_iff.1 h).1

theorem own_tch {base : Nat} {e : TypeId} {size : Nat} {v : Value} {n : Nat} (h : w.ownsRow base e size v n xs) (ht : Tch S w w') (hn : ∀ g, v.ownBlock = some g → ¬ S g) : w'.ownsRow base e size v n xs := by
  obtain ⟨h1, h2⟩ := h
  refine ⟨h1, ?_⟩
  rcases h2 with h2 | ⟨g, cap, cur, rfl, hg, hh, r⟩
  · exact .inl h2
  · exact .inr ⟨g, cap, cur, rfl, hg, ht.blk hh (hn g (by simp [Value.ownBlock])), r⟩
theorem own_below {base : Nat} {e : TypeId} {size : Nat} {v : Value} {n : Nat} (h : w.ownsRow base e size v n xs) (ht : Below w.heap.size w w') : w'.ownsRow base e size v n xs :=
  own_tch h (Tch.of_below ht) (fun g hg => by have := (h.lt g hg).2; omega)
theorem own_base {base base' : Nat} {e : TypeId} {size : Nat} {v : Value} {n : Nat} (h : w.ownsRow base e size v n xs) (hb : base' ≤ base) : w.ownsRow base' e size v n xs := by
  obtain ⟨h1, h2⟩ := h
  refine ⟨h1, ?_⟩
  rcases h2 with h2 | ⟨g, cap, cur, rfl, hg, r⟩
  · exact .inl h2
  · exact .inr ⟨g, cap, cur, rfl, by omega, r⟩
theorem own_cut {base : Nat} {e : TypeId} {size g c : Nat} {n k : Nat} (h : w.ownsRow base e size (.slice (some ⟨g, 0, none⟩) n c) n xs) (hk : k ≤ n) :
    w.ownsRow base e size (.slice (some ⟨g, 0, none⟩) k c) k (xs.take (k * size)) := by
  obtain ⟨h1, h2⟩ := h
  rcases h2 with ⟨h0, _⟩ | ⟨g', cap', cur, hv, hg, hh, hn, hcap, hsz, htake⟩
  · cases h0
  · cases hv
    have hm : k * size ≤ n * size := Nat.mul_le_mul_right _ hk
    refine ⟨by rw [List.length_take, h1]; omega, .inr ⟨g, c, cur, rfl, hg, hh, by omega, hcap, hsz, ?_⟩⟩
    rw [← htake, List.take_take, Nat.min_eq_left hm]
theorem own_cut_any {base : Nat} {e : TypeId} {size c : Nat} {n k : Nat} {A : Option Addr} (h : w.ownsRow base e size (.slice A n c) n xs) (hk : k ≤ n) :
    w.ownsRow base e size (.slice A k c) k (xs.take (k * size)) := by
  have h' := h
  obtain ⟨h1, h2⟩ := h'
  rcases h2 with ⟨h0, h00⟩ | ⟨g', cap', cur, hv, hg, hh, hn, hcap, hsz, htake⟩
  · cases h0
    have : k = 0 := by omega
    subst this
    exact ⟨by simp, .inl ⟨rfl, rfl⟩⟩
  · cases hv
    exact own_cut h hk
/-- The shape of an owned row that is not empty. -/
theorem own_form {base : Nat} {e : TypeId} {size : Nat} {v : Value} {n : Nat} (h : w.ownsRow base e size v n xs) (hn : 0 < n) :
    ∃ g cap, v = .slice (some ⟨g, 0, none⟩) n cap ∧ base ≤ g ∧ g < w.heap.size ∧ n ≤ cap ∧ cap ≤ maxLen := by
  rcases h.2 with ⟨_, h0⟩ | ⟨g, cap, cur, hv, hg, hh, hnc, hcap, _⟩
  · omega
  · exact ⟨g, cap, hv, hg, (Array.getElem?_eq_some_iff.1 hh).1, hnc, hcap⟩
/-- Of any owned row: a slice of n elements. -/
theorem own_any {base : Nat} {e : TypeId} {size : Nat} {v : Value} {n : Nat} (h : w.ownsRow base e size v n xs) :
    ∃ A cap, v = .slice A n cap ∧ n ≤ cap ∧ cap ≤ maxLen ∧ Rd w w.heap.size A xs := by
  rcases h.2 with ⟨hv, h0⟩ | ⟨g, cap, cur, hv, hg, hh, hnc, hcap, hsz, htake⟩
  · have hx : xs = [] := List.eq_nil_of_length_eq_zero (by rw [h.1, h0]; simp)
    exact ⟨none, 0, by rw [hv, h0], by omega, by unfold maxLen; omega, .inl hx⟩
  · refine ⟨_, cap, hv, hnc, hcap, .inr ⟨g, 0, rfl, (Array.getElem?_eq_some_iff.1 hh).1, fun j u hu => ?_⟩⟩
    have hc := h.cells (g := g) (by simp [hv, Value.ownBlock]) j u hu
    have hadd : (⟨g, 0, none⟩ : Addr).add j = ⟨g, 0 + j, none⟩ := by
      unfold Addr.add
      split
      · rename_i h; subst h; rfl
      · rfl
    rw [← hadd]
    exact hc
theorem own_ne {base base' : Nat} {e e' : TypeId} {size size' : Nat} {v v' : Value} {n n' : Nat} {xs' : List Value} (h : w.ownsRow base e size v n xs) (h' : w.ownsRow base' e' size' v' n' xs') (hne : e ≠ e') :
    ∀ g, v.ownBlock = some g → ¬ (v'.ownBlock = some g) := by
  intro g hg hg'
  rcases h.2 with ⟨rfl, _⟩ | ⟨k, cap, cur, rfl, _, hh, _⟩
  · simp [Value.ownBlock] at hg
  rcases h'.2 with ⟨rfl, _⟩ | ⟨k', cap', cur', rfl, _, hh', _⟩
  · simp [Value.ownBlock] at hg'
  simp [Value.ownBlock] at hg hg'
  subst hg; subst hg'
  rw [hh] at hh'
  injection hh' with hh'
  injection hh' with _ ht
  exact hne ht
theorem own_ne_blk {base : Nat} {e t : TypeId} {size : Nat} {v : Value} {n b : Nat} {cs : Array Value} (h : w.ownsRow base e size v n xs) (hb : w.heap[b]? = some (.cells cs t (0, 0))) (hne : e ≠ t) : v.ownBlock ≠ some b := by
  intro hg
  rcases h.2 with ⟨rfl, _⟩ | ⟨k, cap, cur, rfl, _, hh, _⟩
  · simp [Value.ownBlock] at hg
  simp [Value.ownBlock] at hg
  subst hg
  rw [hb] at hh
  injection hh with hh
  injection hh with _ ht
  exact hne ht.symm

theorem Rd.nil (w : World) (B : Nat) (A : Option Addr) : Rd w B A [] := .inl rfl
theorem Rd.at_ (h : Rd w B A xs) {j : Nat} {u : Value} (hj : xs[j]? = some u) : ∃ b off, A = some ⟨b, off, none⟩ ∧ b < B ∧ w.cell? ⟨b, off + j, none⟩ = some u := by
  rcases h with h | ⟨b, off, hA, hb, hc⟩
  · rw [h] at hj; simp at hj
  · exact ⟨b, off, hA, hb, hc j u hj⟩
theorem Rd.below (h : Rd w B A xs) (hb : Below B' w w') (hB : B ≤ B') : Rd w' B A xs := by
  rcases h with h | ⟨b, off, hA, hlt, hc⟩
  · exact .inl h
  · exact .inr ⟨b, off, hA, hlt, fun j u hj => (hb.cell (p := ⟨b, off + j, none⟩) (show b < B' by omega)).trans (hc j u hj)⟩
theorem Rd.tch (h : Rd w B A xs) (ht : Tch S w w') (hB : B ≤ w.heap.size) (hs : ∀ b, b < B → ¬ S b) : Rd w' B A xs :=
  h.below (ht.below hB hs) (Nat.le_refl _)
theorem Rd.up (h : Rd w B A xs) (hB : B ≤ B') : Rd w B' A xs := by
  rcases h with h | ⟨b, off, hA, hlt, hc⟩
  · exact .inl h
  · exact .inr ⟨b, off, hA, by omega, hc⟩
theorem Rd.take (h : Rd w B A xs) (k : Nat) : Rd w B A (xs.take k) := by
  rcases h with h | ⟨b, off, hA, hlt, hc⟩
  · exact .inl (by simp [h])
  · refine .inr ⟨b, off, hA, hlt, fun j u hj => hc j u ?_⟩
    rw [List.getElem?_take] at hj
    split at hj
    · exact hj
    · cases hj
/-- A cut from k on: the model keeps the address where nothing is left of the capacity. -/
theorem Rd.cut (h : Rd w B A xs) {k cap n size : Nat} (hx : xs.length = n * size) (hk : k ≤ n) (hc : n ≤ cap) :
    Rd w B (if cap = k then A else A.map (·.add (k * size))) (xs.drop (k * size)) := by
  by_cases hkn : k = n
  · left
    apply List.drop_eq_nil_of_le
    rw [hx, hkn]; exact Nat.le_refl _
  · rcases h with h | ⟨b, off, hA, hlt, hcell⟩
    · left; rw [h]; simp
    · rw [if_neg (by omega), hA]
      refine .inr ⟨b, off + k * size, ?_, hlt, fun j u hj => ?_⟩
      · simp only [Option.map_some, Addr.add]
        split
        · rename_i h0; rw [h0]; rfl
        · rfl
      · rw [Nat.add_assoc]
        exact hcell _ u (by rw [← hj, List.getElem?_drop])
end

/-- '.slice A n c' reads as the cells xs (size a piece), in a block below B. -/
structure Sl (w : World) (B size : Nat) (A : Option Addr) (n c : Nat) (xs : List Value) : Prop where
  len : xs.length = n * size
  cap : n ≤ c
  max : c ≤ maxLen
  nil : A = none → c = 0
  rd : Rd w B A xs
section
variable {S : Nat → Prop} {w w' : World} {B B' size n c : Nat} {A : Option Addr} {xs : List Value}
theorem Sl.none_ (w : World) (B size : Nat) : Sl w B size none 0 0 [] := ⟨by simp, Nat.le_refl _, by unfold maxLen; omega, fun _ => rfl, .inl rfl⟩
theorem Sl.below (h : Sl w B size A n c xs) (hb : Below B' w w') (hB : B ≤ B') : Sl w' B size A n c xs := { h with rd := h.rd.below hb hB }
theorem Sl.up (h : Sl w B size A n c xs) (hB : B ≤ B') : Sl w B' size A n c xs := { h with rd := h.rd.up hB }
theorem Sl.tch (h : Sl w B size A n c xs) (ht : Tch S w w') (hB : B ≤ w.heap.size) (hs : ∀ b, b < B → ¬ S b) : Sl w' B size A n c xs := { h with rd := h.rd.tch ht hB hs }
theorem Sl.take (h : Sl w B size A n c xs) {k : Nat} (hk : k ≤ n) : Sl w B size A k c (xs.take (k * size)) :=
  ⟨by rw [List.length_take, h.len]; exact Nat.min_eq_left (Nat.mul_le_mul_right _ hk), Nat.le_trans hk h.cap, h.max, h.nil, h.rd.take _⟩
theorem Sl.drop (h : Sl w B size A n c xs) {k : Nat} (hk : k ≤ n) : Sl w B size (if c = k then A else A.map (·.add (k * size))) (n - k) (c - k) (xs.drop (k * size)) :=
  ⟨by rw [List.length_drop, h.len, Nat.sub_mul], by have := h.cap; omega, by have := h.max; omega, fun ha => by
      split at ha
      · have := h.nil ha; omega
      · have : A = none := by simpa using ha
        have := h.nil this; omega, h.rd.cut h.len hk h.cap⟩
theorem ownBlock_eq (A : Option Addr) (n n' c c' : Nat) : (Value.slice A n c).ownBlock = (Value.slice A n' c').ownBlock := by cases A <;> rfl
theorem own_sl {base : Nat} {e : TypeId} {v : Value} (h : w.ownsRow base e size v n xs) : ∃ A c, v = .slice A n c ∧ Sl w w.heap.size size A n c xs := by
  obtain ⟨A, c, hv, h1, h2, h3⟩ := own_any h
  refine ⟨A, c, hv, h.1, h1, h2, fun ha => ?_, h3⟩
  rcases h.2 with ⟨h0, _⟩ | ⟨g, cap, cur, h0, _⟩
  · rw [h0] at hv; cases hv; rfl
  · rw [h0, ha] at hv; cases hv
end

/-- What the laws on append ask of a slice type t: its element type e, an element's cells and bytes. -/
def SliceT (P : Program) (t e size bytes : Nat) : Prop :=
  P.underlying t = some (.slice e) ∧ 0 < size ∧ ∃ i z, P.info? e = some i ∧ i.zero = some z ∧ i.size = size ∧ i.bytes = bytes ∧ z.cells.size = size
theorem SliceT.mk {P : Program} {t e size bytes : Nat} {z : Value} (ht : P.underlying t = some (.slice e)) (hi : (P.info? e).map (fun i => (i.zero, i.size, i.bytes)) = some (some z, size, bytes))
    (hz : z.cells.size = size) (hs : 0 < size) : SliceT P t e size bytes := by
  obtain ⟨i, h1, h2, h3, h4⟩ := info_parts hi
  exact ⟨ht, hs, i, z, h1, h2, h3, h4, hz⟩

section
variable {P : Program} {ops : Array Oper} {rest : List Oper} {o : Oper} {a : Act} {Q : Exit → Act → World → Prop} {w : World}
/-- 'append(v, x)' of one element, v nil or owned: the element lies in a block of its own. -/
theorem wpList_push (hgd : o.guard = none) (s x : Operand) (t : TypeId) (ho : o.op = .call { callee := .builtin .append, args := #[s, x], argTypes := #[t, t] })
    (base e size bytes : Nat) (T : SliceT P t e size bytes) (v : Value) (n : Nat) (xs : List Value) (hown : w.ownsRow base e size v n xs) (hs : a.eval s = v)
    (g : Nat) (cs : Array Value) (hx : a.eval x = .slice (some ⟨g, 0, none⟩) 1 1) (hg : w.heap[g]? = some (.cells cs e (0, 0))) (hl : cs.size = size) (h1 : ∀ u ∈ cs.toList, u.oneCell' = true)
    (hn : n + 1 ≤ 1000000000000) (hby : bytes ≤ 128) (hbase : base ≤ w.heap.size)
    (h : ∀ v' w', w'.ownsRow base e size v' (n + 1) (xs ++ cs.toList) → Tch (fun k => v.ownBlock = some k) w w' → (v'.ownBlock = v.ownBlock ∨ v'.ownBlock = some w.heap.size) → v' ≠ .slice none 0 0 → wpList P ops Q rest (a.put o.dst v') w') :
    wpList P ops Q (o :: rest) a w := by
  obtain ⟨ht, hsz, i, z, hi, hz, hs1, hb1, hz1⟩ := T
  have hnews : ∀ j u, cs.toList[j]? = some u → w.cell? ((⟨g, 0, none⟩ : Addr).add j) = some u := by
    intro j u hu
    have hadd : (⟨g, 0, none⟩ : Addr).add j = ⟨g, j, none⟩ := by
      unfold Addr.add
      split
      · rename_i h; subst h; rfl
      · simp
    rw [hadd, cell_of_row w g j cs e (0, 0) hg]
    simpa using hu
  have hbb : (n + 1) * bytes ≤ 140737488355328 := by
    have : (n + 1) * bytes ≤ 1000000000000 * 128 := Nat.mul_le_mul hn hby
    omega
  exact wpList_append_own_at w hgd s x t ho base e i z size bytes ht hi hz hs1 hb1 hz1 hsz v n xs hs hown ⟨g, 0, none⟩ 1 1 cs.toList hx (by simp [hl]) hnews h1 (by unfold maxLen; omega) hbb hbase
    (fun v' w' h2 h3 h4 h5 => h v' w' h2 (Tch.of_grown h3) h5 (fun e => by have := (h4.1 e).2; omega))
/-- The same in a region that draws its order. -/
theorem step_push {K : Act → World → Prop} {E : Prop} (hgd : o.guard = none) (s x : Operand) (t : TypeId) (ho : o.op = .call { callee := .builtin .append, args := #[s, x], argTypes := #[t, t] })
    (base e size bytes : Nat) (T : SliceT P t e size bytes) (v : Value) (n : Nat) (xs : List Value) (hown : w.ownsRow base e size v n xs) (hs : a.eval s = v)
    (g : Nat) (cs : Array Value) (hx : a.eval x = .slice (some ⟨g, 0, none⟩) 1 1) (hg : w.heap[g]? = some (.cells cs e (0, 0))) (hl : cs.size = size) (h1 : ∀ u ∈ cs.toList, u.oneCell' = true)
    (hn : n + 1 ≤ 1000000000000) (hby : bytes ≤ 128) (hbase : base ≤ w.heap.size)
    (h : ∀ v' w', w'.ownsRow base e size v' (n + 1) (xs ++ cs.toList) → Tch (fun k => v.ownBlock = some k) w w' → (v'.ownBlock = v.ownBlock ∨ v'.ownBlock = some w.heap.size) → v' ≠ .slice none 0 0 → K (a.put o.dst v') w') :
    if Region.wanted o (yielded ops a.tmps) = true then Oper.wp P o a w K Q else E := by
  have hw : Region.wanted o (yielded ops a.tmps) = true := by simp [Region.wanted, hgd]
  rw [if_pos hw]
  obtain ⟨ht, hsz, i, z, hi, hz, hs1, hb1, hz1⟩ := T
  have hnews : ∀ j u, cs.toList[j]? = some u → w.cell? ((⟨g, 0, none⟩ : Addr).add j) = some u := by
    intro j u hu
    have hadd : (⟨g, 0, none⟩ : Addr).add j = ⟨g, j, none⟩ := by
      unfold Addr.add
      split
      · rename_i h; subst h; rfl
      · simp
    rw [hadd, cell_of_row w g j cs e (0, 0) hg]
    simpa using hu
  have hbb : (n + 1) * bytes ≤ 140737488355328 := by
    have : (n + 1) * bytes ≤ 1000000000000 * 128 := Nat.mul_le_mul hn hby
    omega
  obtain ⟨v', w', hr, h2, h3, h4, h5⟩ := run_append_own_at (P := P) w base t o.type e i z size bytes ht hi hz hs1 hb1 hz1 hsz v n xs hown ⟨g, 0, none⟩ 1 1 cs.toList (by simp [hl]) hnews h1 (by unfold maxLen; omega) hbb hbase
  unfold Oper.wp execOp
  simp only [ho, resolve, invoke, builtin, Sem.run_bind, Sem.run_pure, Result.andThen_ok, List.map_toArray, List.map_cons, List.map_nil, hs, hx, hr]
  exact h v' w' h2 (Tch.of_grown h3) h5 (fun e => by have := (h4.1 e).2; omega)
/-- 'append(v, xs...)', v nil or owned, xs whatever: nil, empty or not. -/
theorem wpList_extend (hgd : o.guard = none) (s x : Operand) (t : TypeId) (ho : o.op = .call { callee := .builtin .append, args := #[s, x], argTypes := #[t, t] })
    (base e size bytes : Nat) (T : SliceT P t e size bytes) (v : Value) (n : Nat) (xs : List Value) (hown : w.ownsRow base e size v n xs) (hs : a.eval s = v)
    (B : Nat) (A : Option Addr) (m c : Nat) (news : List Value) (hx : a.eval x = .slice A m c) (hr : Sl w B size A m c news) (h1 : ∀ u ∈ news, u.oneCell' = true)
    (hn : n + m ≤ 1000000000000) (hby : bytes ≤ 128) (hbase : base ≤ w.heap.size)
    (h : ∀ v' w', w'.ownsRow base e size v' (n + m) (xs ++ news) → Tch (fun k => v.ownBlock = some k) w w' → (v'.ownBlock = v.ownBlock ∨ v'.ownBlock = some w.heap.size) → (v' = .slice none 0 0 ↔ v = .slice none 0 0 ∧ m = 0) → wpList P ops Q rest (a.put o.dst v') w') :
    wpList P ops Q (o :: rest) a w := by
  obtain ⟨ht, hsz, i, z, hi, hz, hs1, hb1, hz1⟩ := T
  have hbb : (n + m) * bytes ≤ 140737488355328 := by
    have : (n + m) * bytes ≤ 1000000000000 * 128 := Nat.mul_le_mul hn hby
    omega
  rcases A with _ | ad
  · have hc : c = 0 := hr.nil rfl
    have hm : m = 0 := by have := hr.cap; omega
    subst hc; subst hm
    have hnews : news = [] := List.eq_nil_of_length_eq_zero (by rw [hr.len]; simp)
    subst hnews
    exact wpList_append_own_none hgd s x t ho base e i size ht hi v n xs hs hown hx
      (h v w (by simpa using hown) (Tch.refl _ _) (.inl rfl) (by simp))
  · have hnews : ∀ j u, news[j]? = some u → w.cell? (ad.add j) = some u := by
      intro j u hu
      obtain ⟨b, off, hA, _, hc⟩ := hr.rd.at_ hu
      cases hA
      have hadd : (⟨b, off, none⟩ : Addr).add j = ⟨b, off + j, none⟩ := by
        unfold Addr.add
        split
        · rename_i h; subst h; rfl
        · rfl
      rw [hadd]; exact hc
    exact wpList_append_own_at w hgd s x t ho base e i z size bytes ht hi hz hs1 hb1 hz1 hsz v n xs hs hown ad m c news hx hr.len hnews h1 (by unfold maxLen; omega) hbb hbase
      (fun v' w' h2 h3 h4 h5 => h v' w' h2 (Tch.of_grown h3) h5 h4)
end
end Go.Proofs.YtamhjgkigjpbhaaDoor

/- (XLtlP) Formulas as lists of nodes: what is wrong with them, where their parts begin: plain. -/
namespace Go.Proofs.YtamhjgkigjpbhaaDoor
open Go.RowKit

structure Nd where
  op : Int
  n : Int
  deriving DecidableEq

def takes (op : Int) : Int :=
  if op = 1 ∨ op = 2 ∨ op = 3 then 0 else if op = 4 ∨ op = 8 ∨ op = 11 ∨ op = 12 then 1
  else if op = 5 ∨ op = 6 ∨ op = 7 ∨ op = 9 ∨ op = 10 then 2 else -1
theorem takes_bd (a : Int) : -1 ≤ takes a ∧ takes a ≤ 2 := by unfold takes; repeat' split <;> omega

/-- What is wrong with a node that has d parts ahead of it. -/
def bad (x : Nd) (d : Nat) : Int :=
  if takes x.op < 0 then 3 else if (d : Int) < takes x.op then 4 else if x.op = 3 ∧ (x.n < 0 ∨ 8 ≤ x.n) then 10 else 0
/-- The first error, and how many parts are left. -/
def scan : List Nd → Nat → Int × Nat
  | [], d => (0, d)
  | x :: r, d => if bad x d = 0 then scan r (d - (takes x.op).toNat + 1) else (bad x d, d)
def wrong (f : List Nd) : Int := if f = [] then 4 else if (scan f 0).1 = 0 then (if 1 < (scan f 0).2 then 5 else 0) else (scan f 0).1

theorem scan_append (l r : List Nd) (d : Nat) : scan (l ++ r) d = if (scan l d).1 = 0 then scan r (scan l d).2 else scan l d := by
  induction l generalizing d with
  | nil => simp [scan]
  | cons x l ih =>
    simp only [List.cons_append, scan]
    split
    · exact ih _
    · rfl
theorem take_snoc {α : Type} (f : List α) (k : Nat) (h : k < f.length) : f.take (k + 1) = f.take k ++ [f[k]] := by
  rw [List.take_succ_eq_append_getElem h]
theorem scan_ok {f : List Nd} {k d : Nat} (hk : k < f.length) (hs : scan (f.take k) 0 = (0, d)) (hb : bad f[k] d = 0) : scan (f.take (k + 1)) 0 = (0, d - (takes f[k].op).toNat + 1) := by
  rw [take_snoc f k hk, scan_append, hs]
  simp [scan, hb]
theorem scan_bad {f : List Nd} {k d : Nat} (hk : k < f.length) (hs : scan (f.take k) 0 = (0, d)) (hb : bad f[k] d ≠ 0) : wrong f = bad f[k] d ∧ (scan f 0).1 = bad f[k] d := by
  have h : scan f 0 = (bad f[k] d, d) := by
    conv => lhs; rw [← List.take_append_drop k f, List.drop_eq_getElem_cons hk, scan_append, hs]
    simp [scan, hb]
  have hne : f ≠ [] := by rintro rfl; simp at hk
  simp [wrong, h, hb, hne]
theorem wrong_end {f : List Nd} {d : Nat} (hne : f ≠ []) (hs : scan f 0 = (0, d)) : wrong f = if 1 < d then 5 else 0 := by simp [wrong, hs, hne]
theorem wrong_nil : wrong [] = 4 := rfl

/-- The stack of where parts begin, and where each begins. -/
def stp (s : List Int × List Int) (x : Nd) : List Int × List Int :=
  let k := (takes x.op).toNat
  let b := if 0 < k then s.1.getD (s.1.length - k) 0 else (s.2.length : Int)
  (s.1.take (s.1.length - k) ++ [b], s.2 ++ [b])
def runs (f : List Nd) : List Int × List Int := f.foldl stp ([], [])
def spans (f : List Nd) : List Int := if wrong f = 0 then (runs f).2 else []

theorem runs_snoc {f : List Nd} {k : Nat} (hk : k < f.length) : runs (f.take (k + 1)) = stp (runs (f.take k)) f[k] := by
  unfold runs; rw [take_snoc f k hk, List.foldl_append]; rfl
theorem runs_len (f : List Nd) : (runs f).2.length = f.length := by
  suffices h : ∀ (l : List Nd) (s : List Int × List Int), (l.foldl stp s).2.length = s.2.length + l.length by have := h f ([], []); simpa [runs] using this
  intro l
  induction l with
  | nil => simp
  | cons x l ih => intro s; rw [List.foldl_cons, ih]; simp [stp]; omega
theorem runs_stack {f : List Nd} {d : Nat} (h : scan f 0 = (0, d)) : (runs f).1.length = d := by
  suffices hh : ∀ (l : List Nd) (s : List Int × List Int) (e : Nat), scan l s.1.length = (0, e) → (l.foldl stp s).1.length = e from hh f ([], []) d h
  intro l
  induction l with
  | nil => intro s e h; simpa [scan] using h
  | cons x l ih =>
    intro s e h
    rw [List.foldl_cons]
    apply ih
    simp only [scan] at h
    split at h
    · rename_i hb
      rw [← h]
      congr 1
      simp only [stp, List.length_append, List.length_take, List.length_cons, List.length_nil]
      omega
    · rename_i hb; simp at h; exact absurd h.1 hb
theorem runs_pos (f : List Nd) : ∀ b ∈ (runs f).2, 0 ≤ b ∧ b < f.length := by
  suffices hh : ∀ (l : List Nd) (s : List Int × List Int) (m : Nat), s.2.length + l.length ≤ m → (∀ b ∈ s.1, 0 ≤ b ∧ b < m) → (∀ b ∈ s.2, 0 ≤ b ∧ b < m) → ∀ b ∈ (l.foldl stp s).2, 0 ≤ b ∧ b < m by
    intro b hb
    exact hh f ([], []) f.length (by simp) (by simp) (by simp) b hb
  intro l
  induction l with
  | nil => intro s m _ _ h; simpa using h
  | cons x l ih =>
    intro s m hm h1 h2
    rw [List.foldl_cons]
    simp only [List.length_cons] at hm
    have hb : 0 ≤ (if 0 < (takes x.op).toNat then s.1.getD (s.1.length - (takes x.op).toNat) 0 else (s.2.length : Int)) ∧ (if 0 < (takes x.op).toNat then s.1.getD (s.1.length - (takes x.op).toNat) 0 else (s.2.length : Int)) < (m : Int) := by
      split
      · by_cases hlt : s.1.length - (takes x.op).toNat < s.1.length
        · have : s.1.getD (s.1.length - (takes x.op).toNat) 0 = s.1[s.1.length - (takes x.op).toNat] := by simp [List.getD, hlt]
          rw [this]
          exact h1 _ (List.getElem_mem _)
        · have : s.1.getD (s.1.length - (takes x.op).toNat) 0 = 0 := by simp [List.getD, hlt]
          omega
      · omega
    refine ih _ m ?_ ?_ ?_
    · simp [stp]; omega
    · intro b hbm
      simp only [stp, List.mem_append, List.mem_singleton] at hbm
      rcases hbm with hbm | rfl
      · exact h1 _ (List.mem_of_mem_take hbm)
      · exact hb
    · intro b hbm
      simp only [stp, List.mem_append, List.mem_singleton] at hbm
      rcases hbm with hbm | rfl
      · exact h2 _ hbm
      · exact hb

theorem spans_len {f : List Nd} (h : wrong f = 0) : (spans f).length = f.length := by simp [spans, h, runs_len]
theorem spans_nil_iff (f : List Nd) : spans f = [] ↔ wrong f ≠ 0 := by
  by_cases h : wrong f = 0
  · have hl := spans_len h
    have hne : f ≠ [] := by rintro rfl; simp [wrong_nil] at h
    simp only [h, ne_eq, not_true_eq_false, iff_false]
    rintro h0
    rw [h0] at hl
    exact hne (List.eq_nil_of_length_eq_zero (by simpa using hl.symm))
  · simp [spans, h]
theorem wrong_run {f : List Nd} (hne : f ≠ []) : wrong f = if (scan f 0).1 = 0 then (if 1 < (runs f).1.length then 5 else 0) else (scan f 0).1 := by
  unfold wrong
  rw [if_neg hne]
  split
  · rename_i h
    rw [runs_stack (f := f) (d := (scan f 0).2) (by rw [← h])]
  · rfl
/-- A formula's nodes are all good where they stand. -/
theorem good_at {f : List Nd} (h : wrong f = 0) {k : Nat} (hk : k < f.length) : scan (f.take k) 0 = (0, (runs (f.take k)).1.length) ∧ bad f[k] (runs (f.take k)).1.length = 0 := by
  have hne : f ≠ [] := by rintro rfl; simp at hk
  have hs : (scan f 0).1 = 0 := by
    unfold wrong at h
    rw [if_neg hne] at h
    split at h
    · assumption
    · exact h
  have hsp : f = f.take k ++ (f[k] :: f.drop (k + 1)) := by rw [← List.drop_eq_getElem_cons hk, List.take_append_drop]
  have h1 : (scan (f.take k) 0).1 = 0 := by
    rw [hsp, scan_append] at hs
    split at hs
    · assumption
    · exact hs
  have h2 : scan (f.take k) 0 = (0, (scan (f.take k) 0).2) := by rw [← h1]
  have h3 := runs_stack h2
  refine ⟨by rw [h3]; exact h2, ?_⟩
  rw [h3]
  rw [hsp, scan_append, if_pos h1] at hs
  simp only [scan] at hs
  split at hs
  · assumption
  · exact hs
theorem good_takes {x : Nd} {d : Nat} (h : bad x d = 0) : 0 ≤ takes x.op ∧ takes x.op ≤ (d : Int) ∧ (x.op = 3 → 0 ≤ x.n ∧ x.n < 8) := by
  unfold bad at h
  split at h
  · omega
  · split at h
    · omega
    · split at h
      · omega
      · refine ⟨by omega, by omega, fun h3 => ?_⟩; omega
theorem runs1_le (f : List Nd) : (runs f).1.length ≤ f.length := by
  suffices hh : ∀ (l : List Nd) (s : List Int × List Int) , (l.foldl stp s).1.length ≤ s.1.length + l.length by have := hh f ([], []); simpa [runs] using this
  intro l
  induction l with
  | nil => simp
  | cons x l ih =>
    intro s
    rw [List.foldl_cons]
    have := ih (stp s x)
    have h2 : (stp s x).1.length ≤ s.1.length + 1 := by simp only [stp, List.length_append, List.length_take, List.length_cons, List.length_nil]; omega
    simp only [List.length_cons]
    omega
/-- The parts of a node. -/
def kids (f : List Nd) (at_ : Int) : Int × Int :=
  if wrong f = 0 ∧ 0 ≤ at_ ∧ at_ < f.length then
    if takes (f[at_.toNat]?.getD ⟨0, 0⟩).op = 1 then (at_ - 1, -1)
    else if takes (f[at_.toNat]?.getD ⟨0, 0⟩).op = 2 then ((spans f)[(at_ - 1).toNat]?.getD 0 - 1, at_ - 1) else (-1, -1)
  else (-1, -1)
theorem kids_out {f : List Nd} {at_ : Int} (h : ¬ (wrong f = 0 ∧ 0 ≤ at_ ∧ at_ < f.length)) : kids f at_ = (-1, -1) := by unfold kids; rw [if_neg h]
theorem kids_at {f : List Nd} {k : Nat} (h : wrong f = 0) (hk : k < f.length) :
    kids f k = if takes f[k].op = 1 then ((k : Int) - 1, -1) else if takes f[k].op = 2 then ((spans f)[k - 1]?.getD 0 - 1, (k : Int) - 1) else (-1, -1) := by
  unfold kids
  rw [if_pos ⟨h, by omega, by omega⟩]
  have e : ((k : Int) - 1).toNat = k - 1 := by omega
  simp [hk, e]

/-- The cells of nodes. -/
def ncells (f : List Nd) : List Value := f.flatMap fun x => [.int .i64 x.op, .int .i64 x.n]
theorem ncells_len (f : List Nd) : (ncells f).length = f.length * 2 := by
  induction f with
  | nil => rfl
  | cons x r ih => simp [ncells] at ih ⊢; omega
theorem ncells0 (f : List Nd) (k : Nat) : (ncells f)[k * 2]? = f[k]?.map fun x => .int .i64 x.op := by
  induction f generalizing k with
  | nil => simp [ncells]
  | cons x r ih => cases k with
    | zero => simp [ncells]
    | succ k => have := ih k; simp [ncells, Nat.succ_mul] at this ⊢; exact this
theorem ncells1 (f : List Nd) (k : Nat) : (ncells f)[k * 2 + 1]? = f[k]?.map fun x => .int .i64 x.n := by
  induction f generalizing k with
  | nil => simp [ncells]
  | cons x r ih => cases k with
    | zero => simp [ncells]
    | succ k => have := ih k; simp [ncells, Nat.succ_mul] at this ⊢; exact this
theorem ncells_append (f g : List Nd) : ncells (f ++ g) = ncells f ++ ncells g := by simp [ncells]
theorem rd_nd {w : World} {B : Nat} {A : Option Addr} {f : List Nd} (h : Rd w B A (ncells f)) {k : Nat} (hk : k < f.length) :
    ∃ b off, A = some ⟨b, off, none⟩ ∧ b < B ∧ w.cell? ⟨b, off + k * 2, none⟩ = some (.int .i64 f[k].op) ∧ w.cell? ⟨b, off + k * 2 + 1, none⟩ = some (.int .i64 f[k].n) := by
  rcases h with h | ⟨b, off, hA, hb, hc⟩
  · have := ncells0 f k; rw [h] at this; simp [hk] at this
  · exact ⟨b, off, hA, hb, hc _ _ (by rw [ncells0]; simp [hk]), by rw [Nat.add_assoc]; exact hc _ _ (by rw [ncells1]; simp [hk])⟩
/-- The cells of numbers. -/
def icells (l : List Int) : List Value := l.map (.int .i64)
theorem icells_one (l : List Int) : ∀ u ∈ icells l, u.oneCell' = true := by
  intro u hu
  simp only [icells, List.mem_map] at hu
  obtain ⟨x, _, rfl⟩ := hu
  rfl
theorem icells_append (l m : List Int) : icells (l ++ m) = icells l ++ icells m := by simp [icells]
theorem icells_drop (l : List Int) (k : Nat) : icells (l.drop k) = (icells l).drop (k * 1) := by simp [icells]
theorem icells_take (l : List Int) (k : Nat) : icells (l.take k) = (icells l).take (k * 1) := by simp [icells]
theorem rd_int {w : World} {B : Nat} {A : Option Addr} {l : List Int} (h : Rd w B A (icells l)) {k : Nat} (hk : k < l.length) :
    ∃ b off, A = some ⟨b, off, none⟩ ∧ b < B ∧ w.cell? ⟨b, off + k, none⟩ = some (.int .i64 l[k]) := by
  exact h.at_ (by simp [icells, hk])

/-- The nodes that are untils, from number i on. -/
def utl : Nat → List Nd → List Int
  | _, [] => []
  | i, x :: r => if x.op = 9 then (i : Int) :: utl (i + 1) r else utl (i + 1) r
def untils (f : List Nd) : List Int := if wrong f = 0 then utl 0 f else []
theorem utl_append (l : List Nd) (x : Nd) : ∀ i, utl i (l ++ [x]) = utl i l ++ if x.op = 9 then [((i + l.length : Nat) : Int)] else [] := by
  induction l with
  | nil => intro i; simp [utl]
  | cons y l ih =>
    intro i
    simp only [List.cons_append, utl, ih]
    have e : i + 1 + l.length = i + (y :: l).length := by simp; omega
    split <;> simp [e]
theorem utl_snoc {f : List Nd} {k : Nat} (hk : k < f.length) : utl 0 (f.take (k + 1)) = utl 0 (f.take k) ++ if f[k].op = 9 then [(k : Int)] else [] := by
  rw [take_snoc f k hk, utl_append]
  simp [List.length_take, Nat.min_eq_left (Nat.le_of_lt hk)]
theorem utl_len (l : List Nd) : ∀ i, (utl i l).length ≤ l.length := by
  induction l with
  | nil => simp [utl]
  | cons x l ih => intro i; simp only [utl]; have := ih (i + 1); split <;> simp <;> omega
end Go.Proofs.YtamhjgkigjpbhaaDoor

/- (XPost) What functions leave: words for the ends of walks. -/
namespace Go.Proofs.YtamhjgkigjpbhaaDoor
open Go.RowKit

/-- What a function leaves that answers a new row. -/
def NewRow (w : World) (e size n : Nat) (xs : List Value) (nil : Prop) (en : Ending) (w' : World) : Prop :=
  ∃ v, en = .returned v ∧ w'.ownsRow w.heap.size e size v n xs ∧ Below w.heap.size w w' ∧ (v = .slice none 0 0 ↔ nil)

/-- What a call leaves that answers an int in memory that has only grown. -/
def Num (w : World) (k : Int) (en : Ending) (w' : World) : Prop := en = .returned (.int .i64 k) ∧ Below w.heap.size w w'

/-- Two numbers, in memory that has only grown. -/
def Num2 (w : World) (p : Int × Int) (en : Ending) (w' : World) : Prop := en = .returned (.tuple #[.int .i64 p.1, .int .i64 p.2]) ∧ Below w.heap.size w w'

theorem num2_of {w w' : World} {p : Int × Int} {a b : Int} (h : p = (a, b)) (hb : Below w.heap.size w w') : Num2 w p (.returned (.tuple #[.int .i64 a, .int .i64 b])) w' := ⟨by rw [h], hb⟩

/-- A number of 64 bits without sign, in memory that has only grown. -/
def NumU (w : World) (k : Int) (en : Ending) (w' : World) : Prop := en = .returned (.int .u64 k) ∧ Below w.heap.size w w'

/-- The world but for draws, and a bool. -/
def Said (w : World) (b : Bool) (en : Ending) (w' : World) : Prop := en = .returned (.bool b) ∧ ∃ n, w' = w.drewN n

/-- A bool, in memory that has only grown. -/
def Tru (w : World) (b : Bool) (en : Ending) (w' : World) : Prop := en = .returned (.bool b) ∧ Below w.heap.size w w'

/-- A number that is not below 0 just if there is one. -/
def Fnd (w : World) (b : Bool) (en : Ending) (w' : World) : Prop := ∃ k : Int, en = .returned (.int .i64 k) ∧ -1 ≤ k ∧ k ≤ 9223372036854775807 ∧ Below w.heap.size w w' ∧ decide (0 ≤ k) = b
end Go.Proofs.YtamhjgkigjpbhaaDoor

/- (XLtlQ) Where parts begin: how they lie side by side. Plain. -/
namespace Go.Proofs.YtamhjgkigjpbhaaDoor

/-- Parts that lie side by side, from place i down to 0: the begins of a stack, the top first. -/
def Chain (o : List Int) : Nat → List Int → Prop
  | i, [] => i = 0
  | i, b :: r => ∃ k : Nat, b = k ∧ k < i ∧ o[i - 1]? = some b ∧ Chain o k r
theorem Chain.more {o : List Int} (x : Int) : ∀ (r : List Int) (i : Nat), i ≤ o.length → Chain o i r → Chain (o ++ [x]) i r
  | [], i, _, h => h
  | b :: r, i, hi, ⟨k, hb, hk, ho, hc⟩ => ⟨k, hb, hk, by rw [List.getElem?_append_left (by omega)]; exact ho, Chain.more x r k (by omega) hc⟩

/-- What a node's begin, and the begins ahead of it, have to do with one another. -/
def Lies (s : List Int) (x : Nd) (i : Nat) : Prop :=
  (takes x.op = 0 ∧ s[i]? = some (i : Int)) ∨
  (takes x.op = 1 ∧ 1 ≤ i ∧ ∃ v : Nat, v < i ∧ s[i]? = some (v : Int) ∧ s[i - 1]? = some (v : Int)) ∨
  (takes x.op = 2 ∧ 2 ≤ i ∧ ∃ v a : Nat, v ≤ a ∧ a + 1 < i ∧ s[i]? = some (v : Int) ∧ s[i - 1]? = some ((a : Int) + 1) ∧ s[a]? = some (v : Int))

theorem chain_step {st o : List Int} {x : Nd} {i : Nat} (hi : o.length = i) (hc : Chain o i st.reverse) (hb : bad x st.length = 0) :
    Chain (stp (st, o) x).2 (i + 1) (stp (st, o) x).1.reverse ∧ Lies (stp (st, o) x).2 x i := by
  obtain ⟨h0, hle, _⟩ := good_takes hb
  have hbd := takes_bd x.op
  have ht : takes x.op = 0 ∨ takes x.op = 1 ∨ takes x.op = 2 := by omega
  rcases ht with ht | ht | ht
  · have e : stp (st, o) x = (st ++ [(i : Int)], o ++ [(i : Int)]) := by simp [stp, ht, hi]
    rw [e]
    refine ⟨?_, .inl ⟨ht, by simp [hi]⟩⟩
    simp only [List.reverse_append, List.reverse_cons, List.reverse_nil, List.nil_append, List.singleton_append]
    exact ⟨i, rfl, by omega, by simp [hi], Chain.more _ _ _ (by omega) hc⟩
  · obtain ⟨st', c, rfl⟩ : ∃ st' c, st = st' ++ [c] := by
      have hne : st ≠ [] := by rintro rfl; simp [ht] at hle
      exact ⟨st.dropLast, st.getLast hne, (List.dropLast_concat_getLast hne).symm⟩
    have e : stp (st' ++ [c], o) x = (st' ++ [c], o ++ [c]) := by simp [stp, ht]
    rw [e]
    simp only [List.reverse_append, List.reverse_cons, List.reverse_nil, List.nil_append, List.singleton_append] at hc ⊢
    obtain ⟨k, hk, hki, ho, hr⟩ := hc
    refine ⟨⟨k, hk, by omega, by simp [← hi], Chain.more _ _ _ (by omega) hr⟩, .inr (.inl ⟨ht, by omega, k, hki, by rw [← hk]; simp [← hi], ?_⟩)⟩
    rw [← hk, List.getElem?_append_left (by omega)]; exact ho
  · obtain ⟨st', c, d, rfl⟩ : ∃ st' c d, st = st' ++ [c, d] := by
      have h2 : 2 ≤ st.length := by omega
      refine ⟨st.take (st.length - 2), st[st.length - 2], st[st.length - 1], ?_⟩
      conv => lhs; rw [← List.take_append_drop (st.length - 2) st]
      congr 1
      rw [List.drop_eq_getElem_cons (by omega)]
      congr 1
      have : st.length - 2 + 1 = st.length - 1 := by omega
      rw [this, List.drop_eq_getElem_cons (by omega), List.drop_eq_nil_of_le (by omega)]
    have e : stp (st' ++ [c, d], o) x = (st' ++ [c], o ++ [c]) := by
      have h1 : (st' ++ [c, d]).length - 2 = st'.length := by simp
      simp [stp, ht]
    rw [e]
    simp only [List.reverse_append, List.reverse_cons, List.reverse_nil, List.nil_append, List.cons_append] at hc ⊢
    obtain ⟨kd, hkd, hkdi, hod, kc, hkc, hkcd, hoc, hr⟩ := hc
    refine ⟨⟨kc, hkc, by omega, by simp [← hi], Chain.more _ _ _ (by omega) hr⟩, .inr (.inr ⟨ht, by omega, kc, kd - 1, by omega, by omega, by rw [← hkc]; simp [← hi], ?_, ?_⟩)⟩
    · rw [List.getElem?_append_left (by omega), hod, hkd]; congr 1; omega
    · rw [← hkc, List.getElem?_append_left (by omega)]; exact hoc

theorem chain_all {f : List Nd} (hw : wrong f = 0) : ∀ k, k ≤ f.length → Chain (runs (f.take k)).2 k (runs (f.take k)).1.reverse := by
  intro k
  induction k with
  | zero => intro _; simp [runs, Chain]
  | succ k ih =>
    intro hk
    have hkl : k < f.length := by omega
    rw [runs_snoc hkl]
    have hl : (runs (f.take k)).2.length = k := by rw [runs_len, List.length_take]; omega
    exact (chain_step (st := (runs (f.take k)).1) (o := (runs (f.take k)).2) hl (ih (by omega)) (good_at hw hkl).2).1

theorem last_zero {f : List Nd} (hw : wrong f = 0) : 0 < f.length ∧ (spans f)[f.length - 1]? = some 0 := by
  have hne : f ≠ [] := by rintro rfl; simp [wrong_nil] at hw
  have hpos : 0 < f.length := List.length_pos_iff.2 hne
  refine ⟨hpos, ?_⟩
  have hs : spans f = (runs f).2 := by simp [spans, hw]
  have hc := chain_all hw f.length (Nat.le_refl _)
  rw [List.take_of_length_le (Nat.le_refl _)] at hc
  have h1 : (runs f).1.length ≤ 1 := by
    rw [wrong_run hne] at hw
    split at hw
    · split at hw
      · omega
      · omega
    · rename_i h; exact absurd hw h
  rw [hs]
  match h : (runs f).1.reverse, hc with
  | [], hc => simp only [Chain] at hc; omega
  | [b], hc =>
    obtain ⟨k, hb, _, ho, h0⟩ := hc
    simp only [Chain] at h0
    subst h0
    rw [ho, hb]; rfl
  | b :: c :: r, _ =>
    have := congrArg List.length h
    simp at this
    omega
end Go.Proofs.YtamhjgkigjpbhaaDoor

/- (XLtlP2) What is wrong with a node, in the forms that walks want. Plain. -/
namespace Go.Proofs.YtamhjgkigjpbhaaDoor
open Go.RowKit

theorem bad_form {x : Nd} {d : Nat} (h : takes x.op < 0) : bad x d = 3 := by simp [bad, h]

theorem bad_short {x : Nd} {d : Nat} (h : 0 ≤ takes x.op) (h2 : (d : Int) < takes x.op) : bad x d = 4 := by
  unfold bad; rw [if_neg (by omega), if_pos h2]

theorem bad_range {x : Nd} {d : Nat} (h : 0 ≤ takes x.op) (h2 : takes x.op ≤ (d : Int)) (h3 : x.op = 3) (h4 : x.n < 0 ∨ 8 ≤ x.n) : bad x d = 10 := by
  unfold bad; rw [if_neg (by omega), if_neg (by omega), if_pos ⟨h3, h4⟩]

theorem bad_none {x : Nd} {d : Nat} (h : 0 ≤ takes x.op) (h2 : takes x.op ≤ (d : Int)) (h3 : x.op ≠ 3 ∨ 0 ≤ x.n ∧ x.n < 8) : bad x d = 0 := by
  unfold bad; rw [if_neg (by omega), if_neg (by omega), if_neg (by omega)]

theorem takes3 : takes 3 = 0 := rfl

/-- Where a part begins, of what its own parts are. -/
def frm (at_ : Int) (parts : List Int) : Int := parts.headD at_

theorem stp_frm (s : List Int × List Int) (x : Nd) (h : takes x.op ≤ (s.1.length : Int)) (_h0 : 0 ≤ takes x.op) :
    stp s x = (s.1.take (s.1.length - (takes x.op).toNat) ++ [frm s.2.length (s.1.drop (s.1.length - (takes x.op).toNat))], s.2 ++ [frm s.2.length (s.1.drop (s.1.length - (takes x.op).toNat))]) := by
  have e : (if 0 < (takes x.op).toNat then s.1.getD (s.1.length - (takes x.op).toNat) 0 else (s.2.length : Int)) = frm s.2.length (s.1.drop (s.1.length - (takes x.op).toNat)) := by
    unfold frm
    split
    · rename_i hp
      have hlt : s.1.length - (takes x.op).toNat < s.1.length := by omega
      rw [List.drop_eq_getElem_cons hlt]
      simp [List.getD, hlt]
    · rename_i hp
      have : (takes x.op).toNat = 0 := by omega
      rw [this]
      simp
  simp only [stp, e]

theorem takes_012 {x : Int} (h : 0 ≤ takes x) : takes x = 0 ∨ takes x = 1 ∨ takes x = 2 := by have := takes_bd x; omega

/-- P23.1. -/
def check (f : List Nd) : Int := if 24 < f.length then 5 else wrong f

theorem scan_good {f : List Nd} (hw : wrong f = 0) : scan f 0 = (0, 1) := by
  obtain ⟨hpos, _⟩ := last_zero hw
  have hne : f ≠ [] := by rintro rfl; simp at hpos
  have h0 : (scan f 0).1 = 0 := by
    unfold wrong at hw
    rw [if_neg hne] at hw
    split at hw
    · assumption
    · exact hw
  have hl := runs_stack (f := f) (d := (scan f 0).2) (by rw [← h0])
  have hle : ¬ 1 < (runs f).1.length := by
    rw [wrong_run hne, if_pos h0] at hw
    split at hw
    · omega
    · assumption
  have hge : (runs f).1 ≠ [] := by
    obtain ⟨n, hn⟩ : ∃ n, f.length = n + 1 := ⟨f.length - 1, by omega⟩
    have : runs f = stp (runs (f.take n)) (f[n]'(by omega)) := by rw [← runs_snoc (by omega), ← hn, List.take_of_length_le (Nat.le_refl _)]
    rw [this]
    simp [stp]
  have := List.length_pos_iff.2 hge
  have h2 : (scan f 0).2 = 1 := by omega
  rw [← h0, ← h2]

theorem take_eq_snoc {α : Type} {xs ys : List α} {k : Nat} (h : xs.take k = ys.take k) (hx : k < xs.length) (hy : k < ys.length) (he : xs[k] = ys[k]) : xs.take (k + 1) = ys.take (k + 1) := by
  rw [take_snoc xs k hx, take_snoc ys k hy, h, he]
end Go.Proofs.YtamhjgkigjpbhaaDoor

/- (XTr) Formulas as trees: what lists of nodes are formulas, and where their parts lie. Plain. -/
namespace Go.Proofs.YtamhjgkigjpbhaaDoor

inductive Tr where
  | leaf (x : Nd)
  | un (x : Nd) (a : Tr)
  | bin (x : Nd) (a b : Tr)

def Tr.flat : Tr → List Nd
  | .leaf x => [x]
  | .un x a => a.flat ++ [x]
  | .bin x a b => a.flat ++ (b.flat ++ [x])
def Tr.size : Tr → Nat
  | .leaf _ => 1
  | .un _ a => a.size + 1
  | .bin _ a b => a.size + b.size + 1
def Tr.ok : Tr → Prop
  | .leaf x => takes x.op = 0 ∧ (x.op = 3 → 0 ≤ x.n ∧ x.n < 8)
  | .un x a => takes x.op = 1 ∧ a.ok
  | .bin x a b => takes x.op = 2 ∧ a.ok ∧ b.ok
/-- Where each part begins, of a tree that begins at b. -/
def Tr.begs : Tr → Nat → List Int
  | .leaf _, b => [(b : Int)]
  | .un _ a, b => a.begs b ++ [(b : Int)]
  | .bin _ a c, b => a.begs b ++ (c.begs (b + a.size) ++ [(b : Int)])

theorem Tr.flat_len : ∀ t : Tr, t.flat.length = t.size
  | .leaf _ => rfl
  | .un _ a => by simp [Tr.flat, Tr.size, a.flat_len]
  | .bin _ a b => by simp [Tr.flat, Tr.size, a.flat_len, b.flat_len]; omega
theorem Tr.begs_len : ∀ (t : Tr) (b : Nat), (t.begs b).length = t.size
  | .leaf _, _ => rfl
  | .un _ a, b => by simp [Tr.begs, Tr.size, a.begs_len]
  | .bin _ a c, b => by simp [Tr.begs, Tr.size, a.begs_len, c.begs_len]; omega
theorem Tr.size_pos (t : Tr) : 0 < t.size := by cases t <;> simp [Tr.size]

theorem takes3op : takes 3 = 0 := rfl
theorem Tr.bad_leaf {x : Nd} {d : Nat} (h : takes x.op = 0) (h3 : x.op = 3 → 0 ≤ x.n ∧ x.n < 8) : bad x d = 0 :=
  bad_none (by omega) (by omega) (by by_cases e : x.op = 3; exact .inr (h3 e); exact .inl e)
theorem Tr.bad_node {x : Nd} {d : Nat} (h : 1 ≤ takes x.op) (hd : takes x.op ≤ (d : Int)) : bad x d = 0 :=
  bad_none (by omega) hd (.inl (fun e => by rw [e, takes3op] at h; omega))

theorem Tr.scan_flat : ∀ (t : Tr) (r : List Nd) (d : Nat), t.ok → scan (t.flat ++ r) d = scan r (d + 1)
  | .leaf x, r, d, ⟨h, h3⟩ => by
    show scan (x :: r) d = _
    rw [scan, if_pos (Tr.bad_leaf h h3), h]; rfl
  | .un x a, r, d, ⟨h, ha⟩ => by
    rw [Tr.flat, List.append_assoc, a.scan_flat _ _ ha]
    show scan (x :: r) (d + 1) = _
    rw [scan, if_pos (Tr.bad_node (by omega) (by omega)), h]; rfl
  | .bin x a b, r, d, ⟨h, ha, hb⟩ => by
    rw [Tr.flat, List.append_assoc, a.scan_flat _ _ ha, List.append_assoc, b.scan_flat _ _ hb]
    show scan (x :: r) (d + 1 + 1) = _
    rw [scan, if_pos (Tr.bad_node (by omega) (by omega)), h]
    congr 1
theorem Tr.wrong_flat {t : Tr} (h : t.ok) : wrong t.flat = 0 := by
  have hs : scan t.flat 0 = (0, 1) := by
    have := t.scan_flat [] 0 h
    rw [List.append_nil] at this
    rw [this]; rfl
  have hne : t.flat ≠ [] := by
    intro e
    have := t.flat_len
    rw [e] at this
    have := t.size_pos
    simp at *
    omega
  rw [wrong_end hne hs]; decide

theorem Tr.runs_flat : ∀ (t : Tr) (st o : List Int), t.ok → t.flat.foldl stp (st, o) = (st ++ [(o.length : Int)], o ++ t.begs o.length)
  | .leaf x, st, o, ⟨h, _⟩ => by simp [Tr.flat, Tr.begs, stp, h]
  | .un x a, st, o, ⟨h, ha⟩ => by
    rw [Tr.flat, List.foldl_append, a.runs_flat _ _ ha]
    simp [stp, h, Tr.begs]
  | .bin x a b, st, o, ⟨h, ha, hb⟩ => by
    rw [Tr.flat, List.foldl_append, a.runs_flat _ _ ha, List.foldl_append, b.runs_flat _ _ hb]
    have e : (o ++ a.begs o.length).length = o.length + a.size := by rw [List.length_append, a.begs_len]
    have h2 : (st ++ [(o.length : Int)] ++ [((o.length + a.size : Nat) : Int)]).length - 2 = st.length := by simp
    rw [e]
    simp only [List.foldl_cons, List.foldl_nil, stp, h, Tr.begs]
    rw [show ((2 : Int)).toNat = 2 from rfl, if_pos (by omega), h2]
    have hg : (st ++ [(o.length : Int)] ++ [((o.length + a.size : Nat) : Int)]).getD st.length 0 = (o.length : Int) := by simp [List.getD]
    rw [hg]
    simp
theorem Tr.spans_flat {t : Tr} (h : t.ok) : spans t.flat = t.begs 0 := by
  rw [spans, if_pos (Tr.wrong_flat h), runs, t.runs_flat [] [] h]
  simp

/-- Any nodes that are a formula are a tree's. -/
theorem parse_take (l : List Nd) (h : (scan l 0).1 = 0) : ∀ k, k ≤ l.length → ∃ ts : List Tr, (∀ t ∈ ts, t.ok) ∧ l.take k = ts.flatMap Tr.flat ∧ scan (l.take k) 0 = (0, ts.length) := by
  intro k
  induction k with
  | zero => intro _; exact ⟨[], by simp, by simp, by simp [scan]⟩
  | succ k ih =>
    intro hk
    obtain ⟨ts, hok, hfl, hsc⟩ := ih (by omega)
    have hkl : k < l.length := by omega
    have hb : bad l[k] ts.length = 0 := by
      rcases Decidable.em (bad l[k] ts.length = 0) with h' | h'
      · exact h'
      · exact absurd ((scan_bad hkl hsc h').2.symm.trans h) h'
    have hs := scan_ok hkl hsc hb
    obtain ⟨h0, hle, h3⟩ := good_takes hb
    have hbd := takes_bd l[k].op
    have ht : takes l[k].op = 0 ∨ takes l[k].op = 1 ∨ takes l[k].op = 2 := by omega
    rcases ht with ht | ht | ht
    · refine ⟨ts ++ [.leaf l[k]], ?_, ?_, ?_⟩
      · intro t hm
        simp only [List.mem_append, List.mem_singleton] at hm
        rcases hm with hm | rfl
        · exact hok t hm
        · exact ⟨ht, h3⟩
      · rw [take_snoc l k hkl, hfl]; simp [Tr.flat]
      · rw [hs, ht]; simp
    · obtain ⟨ts', a, rfl⟩ : ∃ ts' a, ts = ts' ++ [a] := by
        have hne : ts ≠ [] := by rintro rfl; simp [ht] at hle
        exact ⟨ts.dropLast, ts.getLast hne, (List.dropLast_concat_getLast hne).symm⟩
      refine ⟨ts' ++ [.un l[k] a], ?_, ?_, ?_⟩
      · intro t hm
        simp only [List.mem_append, List.mem_singleton] at hm
        rcases hm with hm | rfl
        · exact hok t (by simp [hm])
        · exact ⟨ht, hok a (by simp)⟩
      · rw [take_snoc l k hkl, hfl]; simp [Tr.flat]
      · rw [hs, ht]; simp
    · obtain ⟨ts', a, b, rfl⟩ : ∃ ts' a b, ts = ts' ++ [a, b] := by
        have h2 : 2 ≤ ts.length := by omega
        refine ⟨ts.take (ts.length - 2), ts[ts.length - 2], ts[ts.length - 1], ?_⟩
        conv => lhs; rw [← List.take_append_drop (ts.length - 2) ts]
        congr 1
        rw [List.drop_eq_getElem_cons (by omega)]
        congr 1
        have : ts.length - 2 + 1 = ts.length - 1 := by omega
        rw [this, List.drop_eq_getElem_cons (by omega), List.drop_eq_nil_of_le (by omega)]
      refine ⟨ts' ++ [.bin l[k] a b], ?_, ?_, ?_⟩
      · intro t hm
        simp only [List.mem_append, List.mem_singleton] at hm
        rcases hm with hm | rfl
        · exact hok t (by simp [hm])
        · exact ⟨ht, hok a (by simp), hok b (by simp)⟩
      · rw [take_snoc l k hkl, hfl]; simp [Tr.flat]
      · rw [hs, ht]; simp
theorem parse {f : List Nd} (h : wrong f = 0) : ∃ t : Tr, t.ok ∧ f = t.flat := by
  have hs := scan_good h
  obtain ⟨ts, hok, hfl, hsc⟩ := parse_take f (by rw [hs]) f.length (Nat.le_refl _)
  rw [List.take_of_length_le (Nat.le_refl _)] at hfl hsc
  rw [hs] at hsc
  have hl : ts.length = 1 := by simpa using (congrArg Prod.snd hsc).symm
  match ts, hl with
  | [t], _ => exact ⟨t, hok t (by simp), by simpa using hfl⟩

/-- The tree t lies in f from b on, s telling where parts begin. -/
def At (f : List Nd) (s : List Int) : Nat → Tr → Prop
  | b, .leaf x => f[b]? = some x ∧ s[b]? = some (b : Int)
  | b, .un x a => At f s b a ∧ f[b + a.size]? = some x ∧ s[b + a.size]? = some (b : Int)
  | b, .bin x a c => At f s b a ∧ At f s (b + a.size) c ∧ f[b + a.size + c.size]? = some x ∧ s[b + a.size + c.size]? = some (b : Int)
def Tr.root : Tr → Nd
  | .leaf x => x
  | .un x _ => x
  | .bin x _ _ => x
theorem at_root {f : List Nd} {s : List Int} {b k : Nat} {t : Tr} (h : At f s b t) (hk : k + 1 = b + t.size) : f[k]? = some t.root ∧ s[k]? = some (b : Int) := by
  cases t with
  | leaf x => simp only [Tr.size] at hk; (obtain rfl : k = b := (by omega)); exact h
  | un x a => simp only [Tr.size] at hk; (obtain rfl : k = b + a.size := (by omega)); exact h.2
  | bin x a c => simp only [Tr.size] at hk; (obtain rfl : k = b + a.size + c.size := (by omega)); exact h.2.2
theorem at_mid {α : Type} (p q : List α) (x : α) (r : List α) {n : Nat} (h : n = p.length + q.length) : (p ++ (q ++ (x :: r)))[n]? = some x := by
  rw [h, ← List.append_assoc, List.getElem?_append_right (by simp), List.length_append]; simp
theorem at_here : ∀ (t : Tr) (p r : List Nd) (sp sr : List Int) (b : Nat), p.length = b → sp.length = b → At (p ++ (t.flat ++ r)) (sp ++ (t.begs b ++ sr)) b t
  | .leaf x, p, r, sp, sr, b, hp, hs => by
    refine ⟨?_, ?_⟩
    · have := at_mid p [] x r (n := b) (by simp [hp]); simpa [Tr.flat] using this
    · have := at_mid sp [] (b : Int) sr (n := b) (by simp [hs]); simpa [Tr.begs] using this
  | .un x a, p, r, sp, sr, b, hp, hs => by
    refine ⟨?_, ?_, ?_⟩
    · have := at_here a p ([x] ++ r) sp ([(b : Int)] ++ sr) b hp hs
      simpa [Tr.flat, Tr.begs] using this
    · have := at_mid p a.flat x r (n := b + a.size) (by rw [hp, a.flat_len]); simpa [Tr.flat] using this
    · have := at_mid sp (a.begs b) (b : Int) sr (n := b + a.size) (by rw [hs, a.begs_len]); simpa [Tr.begs] using this
  | .bin x a c, p, r, sp, sr, b, hp, hs => by
    refine ⟨?_, ?_, ?_, ?_⟩
    · have := at_here a p (c.flat ++ [x] ++ r) sp (c.begs (b + a.size) ++ [(b : Int)] ++ sr) b hp hs
      simpa [Tr.flat, Tr.begs] using this
    · have := at_here c (p ++ a.flat) ([x] ++ r) (sp ++ a.begs b) ([(b : Int)] ++ sr) (b + a.size) (by rw [List.length_append, hp, a.flat_len]) (by rw [List.length_append, hs, a.begs_len])
      simpa [Tr.flat, Tr.begs] using this
    · have := at_mid (p ++ a.flat) c.flat x r (n := b + a.size + c.size) (by rw [List.length_append, hp, a.flat_len, c.flat_len]); simpa [Tr.flat] using this
    · have := at_mid (sp ++ a.begs b) (c.begs (b + a.size)) (b : Int) sr (n := b + a.size + c.size) (by rw [List.length_append, hs, a.begs_len, c.begs_len]); simpa [Tr.begs] using this
theorem at_whole {t : Tr} (h : t.ok) : At t.flat (spans t.flat) 0 t := by
  have := at_here t [] [] [] [] 0 rfl rfl
  rw [Tr.spans_flat h]
  simpa using this

/-- Trees, read off a list with a stack, the top first. -/
def pstep (st : List Tr) (x : Nd) : List Tr :=
  if takes x.op = 0 then .leaf x :: st
  else if takes x.op = 1 then (match st with | a :: r => .un x a :: r | [] => [])
  else (match st with | b :: a :: r => .bin x a b :: r | _ => [])
theorem pstep_flat : ∀ (t : Tr) (st : List Tr), t.ok → t.flat.foldl pstep st = t :: st
  | .leaf x, st, ⟨h, _⟩ => by simp [Tr.flat, pstep, h]
  | .un x a, st, ⟨h, ha⟩ => by rw [Tr.flat, List.foldl_append, pstep_flat a st ha]; simp [pstep, h]
  | .bin x a b, st, ⟨h, ha, hb⟩ => by
    rw [Tr.flat, List.foldl_append, pstep_flat a st ha, List.foldl_append, pstep_flat b _ hb]; simp [pstep, h]
def treeOf (f : List Nd) : Tr := (f.foldl pstep []).headD (.leaf ⟨0, 0⟩)
theorem treeOf_flat {t : Tr} (h : t.ok) : treeOf t.flat = t := by rw [treeOf, pstep_flat t [] h]; rfl
theorem treeOf_ok {f : List Nd} (h : wrong f = 0) : (treeOf f).ok ∧ (treeOf f).flat = f := by
  obtain ⟨t, hok, rfl⟩ := parse h
  rw [treeOf_flat hok]; exact ⟨hok, rfl⟩
end Go.Proofs.YtamhjgkigjpbhaaDoor

/- (XNnfP) Negation normal form, on trees and on lists. Plain. -/
namespace Go.Proofs.YtamhjgkigjpbhaaDoor

/-- The positive form (y), or the negative one. -/
def nn : Tr → Bool → Tr
  | .leaf x, y => if x.op = 3 then (if y then .leaf x else .un ⟨4, 0⟩ (.leaf x)) else .leaf ⟨if (x.op == 1) = y then 1 else 2, 0⟩
  | .un x a, y =>
    if x.op = 4 then nn a (!y) else if x.op = 8 then .un ⟨8, 0⟩ (nn a y)
    else if (x.op == 11) = y then .bin ⟨9, 0⟩ (.leaf ⟨1, 0⟩) (nn a y) else .bin ⟨10, 0⟩ (.leaf ⟨2, 0⟩) (nn a y)
  | .bin x a b, y =>
    if x.op = 7 then .bin ⟨if y then 6 else 5, 0⟩ (nn a (!y)) (nn b y)
    else .bin ⟨if x.op = 5 then (if y then 5 else 6) else if x.op = 6 then (if y then 6 else 5) else if x.op = 9 then (if y then 9 else 10) else (if y then 10 else 9), 0⟩ (nn a y) (nn b y)

theorem takes_zero {x : Int} (h : takes x = 0) : x = 1 ∨ x = 2 ∨ x = 3 := by unfold takes at h; (repeat' split at h) <;> omega
theorem takes_one {x : Int} (h : takes x = 1) : x = 4 ∨ x = 8 ∨ x = 11 ∨ x = 12 := by unfold takes at h; (repeat' split at h) <;> omega
theorem takes_two {x : Int} (h : takes x = 2) : x = 5 ∨ x = 6 ∨ x = 7 ∨ x = 9 ∨ x = 10 := by unfold takes at h; (repeat' split at h) <;> omega

/-- In negation normal form. -/
def Tr.nnf : Tr → Prop
  | .leaf _ => True
  | .un x a => (x.op = 8 ∧ a.nnf) ∨ (x.op = 4 ∧ ∃ p, a = .leaf p ∧ p.op = 3)
  | .bin x a b => (x.op = 5 ∨ x.op = 6 ∨ x.op = 9 ∨ x.op = 10) ∧ a.nnf ∧ b.nnf
/-- What may stand behind a node of operation p. -/
def okN (p : Int) (x : Nd) : Bool := if x.op = 4 then p == 3 else !(x.op == 7 || x.op == 11 || x.op == 12)
def isNl : Int → List Nd → Bool
  | _, [] => true
  | p, x :: r => okN p x && isNl x.op r
def lastOp (p : Int) (l : List Nd) : Int := (l.getLast?.map (·.op)).getD p
theorem isNl_append : ∀ (l r : List Nd) (p : Int), isNl p (l ++ r) = (isNl p l && isNl (lastOp p l) r)
  | [], r, p => by simp [isNl, lastOp]
  | [x], r, p => by simp [isNl, lastOp]
  | x :: y :: l, r, p => by
    have := isNl_append (y :: l) r x.op
    simp only [List.cons_append, isNl] at this ⊢
    rw [this]
    have e : lastOp x.op (y :: l) = lastOp p (x :: y :: l) := by
      simp [lastOp, List.getLast?_cons]
    rw [e]
    simp [Bool.and_assoc]
/-- P25.2. -/
def isN (f : List Nd) : Bool := wrong f == 0 && isNl 0 f

theorem Tr.lastOp_flat (t : Tr) (p : Int) : lastOp p t.flat = t.root.op := by
  cases t <;> simp [Tr.flat, Tr.root, lastOp]
theorem isNl_flat : ∀ (t : Tr) (p : Int), t.ok → (isNl p t.flat = true ↔ t.nnf)
  | .leaf x, p, ⟨h, _⟩ => by
    rcases takes_zero h with e | e | e <;> simp [Tr.flat, isNl, okN, e, Tr.nnf]
  | .un x a, p, ⟨h, ha⟩ => by
    rw [Tr.flat, isNl_append, Tr.lastOp_flat]
    have ih := isNl_flat a p ha
    have ih0 := isNl_flat a p ha
    rcases takes_one h with e | e | e | e
    · simp only [isNl, okN, e, if_true, Bool.and_true, Bool.and_eq_true, ih, Tr.nnf, beq_iff_eq]
      constructor
      · rintro ⟨hn, hr⟩
        refine .inr ⟨trivial, ?_⟩
        cases a with
        | leaf y => exact ⟨y, rfl, hr⟩
        | un y c => exact absurd ha.1 (by rw [show y.op = 3 from hr]; decide)
        | bin y c d => exact absurd ha.1 (by rw [show y.op = 3 from hr]; decide)
      · rintro (⟨h8, _⟩ | ⟨_, y, rfl, hy⟩)
        · omega
        · exact ⟨trivial, hy⟩
    · simp [isNl, okN, e, ih, Tr.nnf]
    · simp [isNl, okN, e, Tr.nnf]
    · simp [isNl, okN, e, Tr.nnf]
  | .bin x a b, p, ⟨h, ha, hb⟩ => by
    rw [Tr.flat, isNl_append, isNl_append, Tr.lastOp_flat]
    have h1 := isNl_flat a p ha
    have h2 := isNl_flat b a.root.op hb
    rcases takes_two h with e | e | e | e | e <;> simp [isNl, okN, e, h1, h2, Tr.nnf]
theorem isN_flat {t : Tr} (h : t.ok) : isN t.flat = true ↔ t.nnf := by
  simp [isN, Tr.wrong_flat h, isNl_flat t 0 h]

theorem isNl_ok {f : List Nd} {k : Nat} (hk : k < f.length) (h : isNl 0 (f.take k) = true) (ho : okN (lastOp 0 (f.take k)) f[k] = true) : isNl 0 (f.take (k + 1)) = true := by
  rw [take_snoc f k hk, isNl_append, h]; simp [isNl, ho]
theorem isNl_no {f : List Nd} {k : Nat} (hk : k < f.length) (ho : okN (lastOp 0 (f.take k)) f[k] = false) : isN f = false := by
  have : f = f.take k ++ (f[k] :: f.drop (k + 1)) := by rw [← List.drop_eq_getElem_cons hk, List.take_append_drop]
  rw [isN]
  conv => lhs; rhs; rw [this, isNl_append]
  simp [isNl, ho]
theorem lastOp_take {f : List Nd} {k : Nat} (hk : k < f.length) (h1 : 1 ≤ k) : lastOp 0 (f.take k) = (f[k - 1]'(by omega)).op := by
  obtain ⟨j, rfl⟩ : ∃ j, k = j + 1 := ⟨k - 1, by omega⟩
  unfold lastOp
  rw [take_snoc f j (by omega), List.getLast?_concat]
  rfl
theorem isN_end {f : List Nd} (hw : wrong f = 0) (h : isNl 0 (f.take f.length) = true) : isN f = true := by
  rw [List.take_of_length_le (Nat.le_refl _)] at h
  simp [isN, hw, h]
theorem isN_wrong {f : List Nd} (hw : wrong f ≠ 0) : isN f = false := by simp [isN, hw]
theorem isN_good {f : List Nd} (h : isN f = true) : wrong f = 0 := by simp [isN] at h; exact h.1
/-- A negation in a formula has a node ahead of it. -/
theorem not_first {f : List Nd} (hw : wrong f = 0) {k : Nat} (hk : k < f.length) (h : 1 ≤ takes f[k].op) : 1 ≤ k := by
  have := (good_takes (good_at hw hk).2).2.1
  have h2 := runs1_le (f.take k)
  rw [List.length_take, Nat.min_eq_left (Nat.le_of_lt hk)] at h2
  omega

end Go.Proofs.YtamhjgkigjpbhaaDoor

/- (XWordP) Where the parts of a formula hold on a word, on lists and on trees. Plain. -/
namespace Go.Proofs.YtamhjgkigjpbhaaDoor

/-- The place behind the place i of a word of n places whose loop begins at lp. -/
def nx (lp n i : Nat) : Nat := if i + 1 < n then i + 1 else lp
theorem nx_lt {lp n i : Nat} (h : lp < n) : nx lp n i < n := by unfold nx; split <;> omega
/-- Is a until b satisfied at a place, looked for through k places? -/
def run (lp n : Nat) (a b : List Bool) : Nat → Nat → Bool
  | 0, _ => false
  | k + 1, i => b.getD i false || (a.getD i false && run lp n a b k (nx lp n i))
def untL (lp : Nat) (a b : List Bool) : List Bool := (List.range a.length).map (run lp a.length a b (a.length + 1))
def flipL (a : List Bool) : List Bool := a.map (!·)
def yesL (n : Nat) : List Bool := List.replicate n true
def place1 (bit : Nat → Bool) (x : Nd) (n lp : Nat) (a b : List Bool) (i : Nat) : Bool :=
  if x.op = 1 then true else if x.op = 3 then bit i else if x.op = 4 then !a.getD i false
  else if x.op = 8 then a.getD (nx lp n i) false else if x.op = 5 then a.getD i false && b.getD i false
  else if x.op = 6 then a.getD i false || b.getD i false else if x.op = 7 then !a.getD i false || b.getD i false else false
/-- At which places a node is satisfied, by those at which its parts are. -/
def placesL (bits : Int → Nat → Bool) (n lp : Nat) (x : Nd) (a b : List Bool) : List Bool :=
  if x.op = 9 then untL lp a b else if x.op = 10 then flipL (untL lp (flipL a) (flipL b)) else if x.op = 11 then untL lp (yesL n) a
  else if x.op = 12 then flipL (untL lp (yesL n) (flipL a)) else (List.range n).map (place1 (bits x.n) x n lp a b)
/-- The places of a tree. -/
def val (bits : Int → Nat → Bool) (n lp : Nat) : Tr → List Bool
  | .leaf x => placesL bits n lp x [] []
  | .un x a => placesL bits n lp x (val bits n lp a) []
  | .bin x a b => placesL bits n lp x (val bits n lp a) (val bits n lp b)

theorem untL_len (lp : Nat) (a b : List Bool) : (untL lp a b).length = a.length := by simp [untL]
theorem flipL_len (a : List Bool) : (flipL a).length = a.length := by simp [flipL]
theorem yesL_len (n : Nat) : (yesL n).length = n := by simp [yesL]
theorem flip_get {a : List Bool} {i : Nat} (h : i < a.length) : (flipL a).getD i false = !a.getD i false := by
  simp [flipL, List.getD, h]
theorem placesL_len {bits : Int → Nat → Bool} {n lp : Nat} {x : Nd} {a b : List Bool} (h : 1 ≤ takes x.op → a.length = n) : (placesL bits n lp x a b).length = n := by
  unfold placesL
  (repeat' split) <;> simp_all [untL_len, flipL_len, yesL_len, takes]
theorem val_len {bits : Int → Nat → Bool} {n lp : Nat} : ∀ t : Tr, t.ok → (val bits n lp t).length = n
  | .leaf x, ⟨h, _⟩ => placesL_len (by omega)
  | .un x a, ⟨_, ha⟩ => placesL_len (fun _ => val_len a ha)
  | .bin x a b, ⟨_, ha, _⟩ => placesL_len (fun _ => val_len a ha)

theorem leafT {bits : Int → Nat → Bool} {n lp : Nat} (m : Int) : val bits n lp (.leaf ⟨1, m⟩) = yesL n := by
  simp [val, placesL, yesL]
  apply List.ext_getElem <;> simp [place1]
theorem leafF {bits : Int → Nat → Bool} {n lp : Nat} (m : Int) : val bits n lp (.leaf ⟨2, m⟩) = flipL (yesL n) := by
  simp [val, placesL, yesL, flipL]
  apply List.ext_getElem <;> simp [place1]

end Go.Proofs.YtamhjgkigjpbhaaDoor

/- (XWordQ) The rows of all nodes, one by one, and those of a tree's parts. Plain. -/
namespace Go.Proofs.YtamhjgkigjpbhaaDoor

/-- The parts of a node x that stands at k, by how many it takes. -/
def parts0 (s : List Int) (k : Nat) (x : Nd) : Int × Int :=
  if takes x.op = 1 then ((k : Int) - 1, -1) else if takes x.op = 2 then (s[k - 1]?.getD 0 - 1, (k : Int) - 1) else (-1, -1)
def getR (L : List (List Bool)) (l : Int) : List Bool := if 0 ≤ l then L.getD l.toNat [] else []
def rowsL (bits : Int → Nat → Bool) (n lp : Nat) (f : List Nd) (s : List Int) : Nat → List (List Bool)
  | 0 => []
  | k + 1 => rowsL bits n lp f s k ++ [placesL bits n lp (f.getD k ⟨0, 0⟩) (getR (rowsL bits n lp f s k) (parts0 s k (f.getD k ⟨0, 0⟩)).1) (getR (rowsL bits n lp f s k) (parts0 s k (f.getD k ⟨0, 0⟩)).2)]

section
variable {bits : Int → Nat → Bool} {n lp : Nat} {f : List Nd} {s : List Int}
theorem rowsL_len : ∀ k, (rowsL bits n lp f s k).length = k
  | 0 => rfl
  | k + 1 => by rw [rowsL, List.length_append, rowsL_len k]; rfl
theorem rowsL_up {j : Nat} {r : List Bool} : ∀ {k d : Nat}, (rowsL bits n lp f s k)[j]? = some r → (rowsL bits n lp f s (k + d))[j]? = some r
  | _, 0, h => h
  | k, d + 1, h => by
    have ih := rowsL_up (d := d) h
    rw [← Nat.add_assoc, rowsL, List.getElem?_append_left (List.getElem?_eq_some_iff.1 ih).1]
    exact ih
theorem rowsL_at {k : Nat} {x : Nd} (h : f[k]? = some x) :
    (rowsL bits n lp f s (k + 1))[k]? = some (placesL bits n lp x (getR (rowsL bits n lp f s k) (parts0 s k x).1) (getR (rowsL bits n lp f s k) (parts0 s k x).2)) := by
  have : f.getD k ⟨0, 0⟩ = x := by simp [List.getD, h]
  rw [rowsL, this, List.getElem?_append_right (by rw [rowsL_len]; exact Nat.le_refl _), rowsL_len]
  simp
theorem getR_some {L : List (List Bool)} {j : Nat} {r : List Bool} (h : L[j]? = some r) : getR L (j : Int) = r := by
  simp [getR, List.getD, h]
theorem getR_neg {L : List (List Bool)} : getR L (-1) = [] := rfl

theorem at_rows : ∀ (t : Tr) (b k : Nat), t.ok → At f s b t → k + 1 = b + t.size → (rowsL bits n lp f s (k + 1))[k]? = some (val bits n lp t)
  | .leaf x, b, k, ⟨h, _⟩, hat, hk => by
    have hr := (at_root hat hk).1
    rw [rowsL_at hr]
    simp [Tr.root, parts0, h, getR_neg, val]
  | .un x a, b, k, ⟨h, ha⟩, hat, hk => by
    have hr := (at_root hat hk).1
    rw [rowsL_at hr]
    simp only [Tr.size] at hk
    obtain ⟨j, hj⟩ : ∃ j, j + 1 = b + a.size := ⟨b + a.size - 1, by have := a.size_pos; omega⟩
    have ih := at_rows a b j ha hat.1 hj
    have ejk : j + 1 = k := by omega
    rw [ejk] at ih
    have e : parts0 s k x = ((j : Int), -1) := by unfold parts0; rw [if_pos h, show (k : Int) - 1 = j by omega]
    simp only [Tr.root, e, getR_neg, getR_some ih, val]
  | .bin x a c, b, k, ⟨h, ha, hc⟩, hat, hk => by
    have hr := (at_root hat hk).1
    rw [rowsL_at hr]
    simp only [Tr.size] at hk
    obtain ⟨j, hj⟩ : ∃ j, j + 1 = b + a.size := ⟨b + a.size - 1, by have := a.size_pos; omega⟩
    obtain ⟨i, hi⟩ : ∃ i, i + 1 = b + a.size + c.size := ⟨b + a.size + c.size - 1, by have := c.size_pos; omega⟩
    have ih1 := at_rows a b j ha hat.1 hj
    have ih2 := at_rows c (b + a.size) i hc hat.2.1 hi
    have eik : i + 1 = k := by omega
    rw [eik] at ih2
    have ih1' := rowsL_up (d := k - (j + 1)) ih1
    rw [show j + 1 + (k - (j + 1)) = k by omega] at ih1'
    have hs := (at_root hat.2.1 hi).2
    have e : parts0 s k x = ((j : Int), (i : Int)) := by
      unfold parts0
      rw [if_neg (by omega), if_pos h, show k - 1 = i by omega, hs]
      simp only [Option.getD_some]
      congr 1 <;> omega
    simp only [Tr.root, e, getR_some ih1', getR_some ih2, val]

/-- The last row of a formula is the tree's. -/
theorem rows_last (hw : wrong f = 0) : (rowsL bits n lp f (spans f) f.length)[f.length - 1]? = some (val bits n lp (treeOf f)) := by
  obtain ⟨hok, hfl⟩ := treeOf_ok hw
  have hp := (treeOf f).size_pos
  have hl := (treeOf f).flat_len
  rw [hfl] at hl
  have := at_rows (bits := bits) (n := n) (lp := lp) (f := f) (s := spans f) (treeOf f) 0 (f.length - 1) hok (by have := at_whole hok; rwa [hfl] at this) (by omega)
  rwa [show f.length - 1 + 1 = f.length by omega] at this
theorem val_flat (hw : wrong f = 0) : (val bits n lp (treeOf f)).length = n := val_len _ (treeOf_ok hw).1
end
end Go.Proofs.YtamhjgkigjpbhaaDoor

/- (XSatP) What a tree says at a place of a word, place by place; an until is a fixpoint. Plain. -/
namespace Go.Proofs.YtamhjgkigjpbhaaDoor

theorem run_mono (lp n : Nat) (a b : List Bool) : ∀ k i, run lp n a b k i = true → run lp n a b (k + 1) i = true
  | 0, i, h => by simp [run] at h
  | k + 1, i, h => by
    rw [run] at h ⊢
    have ih := run_mono lp n a b k (nx lp n i)
    revert ih h
    cases b.getD i false <;> cases a.getD i false <;> simp
    intro h ih; exact ih h
theorem countP_same {α : Type} {p q : α → Bool} : ∀ (l : List α), (∀ x ∈ l, p x = true → q x = true) → l.countP q ≤ l.countP p → ∀ x ∈ l, p x = q x
  | [], _, _ => by simp
  | y :: l, h, hc => by
    have hm : l.countP p ≤ l.countP q := List.countP_mono_left (fun x hx => h x (List.mem_cons_of_mem _ hx))
    have hy := h y List.mem_cons_self
    rw [List.countP_cons, List.countP_cons] at hc
    have h1 : p y = q y := by
      cases e : p y <;> cases e' : q y <;> simp_all
      omega
    have h2 : l.countP q ≤ l.countP p := by
      rw [h1] at hc; omega
    intro x hx
    rcases List.mem_cons.1 hx with rfl | hx
    · exact h1
    · exact countP_same l (fun x hx => h x (List.mem_cons_of_mem _ hx)) h2 x hx
theorem run_stays {lp n : Nat} (hlp : lp < n) (a b : List Bool) {k : Nat} (h : ∀ i, i < n → run lp n a b k i = run lp n a b (k + 1) i) : ∀ d i, i < n → run lp n a b k i = run lp n a b (k + d) i
  | 0, _, _ => rfl
  | d + 1, i, hi => by
    have : run lp n a b (k + 1) i = run lp n a b (k + d + 1) i := by
      rw [run, run, run_stays hlp a b h d (nx lp n i) (nx_lt hlp)]
    rw [h i hi, this]; rfl
theorem run_count {lp n : Nat} (a b : List Bool) : ∀ k, (∃ j, j ≤ k ∧ ∀ i, i < n → run lp n a b j i = run lp n a b (j + 1) i) ∨ k ≤ (List.range n).countP (run lp n a b k)
  | 0 => .inr (by simp)
  | k + 1 => by
    rcases run_count a b k with ⟨j, hj, h⟩ | h
    · exact .inl ⟨j, by omega, h⟩
    · by_cases hc : (List.range n).countP (run lp n a b (k + 1)) ≤ (List.range n).countP (run lp n a b k)
      · left
        refine ⟨k, by omega, fun i hi => ?_⟩
        exact countP_same (List.range n) (fun x _ hx => run_mono lp n a b k x hx) hc i (List.mem_range.2 hi)
      · right; omega
/-- After as many steps as there are places nothing comes any more. -/
theorem run_sat {lp n : Nat} (hlp : lp < n) (a b : List Bool) {k i : Nat} (hk : n ≤ k) (hi : i < n) : run lp n a b k i = run lp n a b (n + 1) i := by
  have hj : ∃ j, j ≤ n ∧ ∀ i, i < n → run lp n a b j i = run lp n a b (j + 1) i := by
    rcases run_count (lp := lp) (n := n) a b (n + 1) with ⟨j, hj, h⟩ | h
    · by_cases e : j = n + 1
      · rcases run_count (lp := lp) (n := n) a b n with ⟨j, hj, h⟩ | h'
        · exact ⟨j, hj, h⟩
        · have h1 : (List.range n).countP (run lp n a b (n + 1)) ≤ (List.range n).length := List.countP_le_length
          rw [List.length_range] at h1
          exact ⟨n, Nat.le_refl _, fun i hi => countP_same (List.range n) (fun x _ hx => run_mono lp n a b n x hx) (by omega) i (List.mem_range.2 hi)⟩
      · exact ⟨j, by omega, h⟩
    · have := List.countP_le_length (p := run lp n a b (n + 1)) (l := List.range n)
      rw [List.length_range] at this; omega
  obtain ⟨j, hj, h⟩ := hj
  have e1 := run_stays hlp a b h (k - j) i hi
  have e2 := run_stays hlp a b h (n + 1 - j) i hi
  rw [show j + (k - j) = k by omega] at e1
  rw [show j + (n + 1 - j) = n + 1 by omega] at e2
  rw [← e1, e2]
/-- An until is what holds, or what is owed to the next place. -/
theorem run_fix {lp n : Nat} (hlp : lp < n) (a b : List Bool) {i : Nat} (hi : i < n) : run lp n a b (n + 1) i = (b.getD i false || (a.getD i false && run lp n a b (n + 1) (nx lp n i))) := by
  rw [← run_sat hlp a b (k := n + 2) (by omega) hi, show n + 2 = (n + 1) + 1 from rfl, run]
/-- It is the least such. -/
theorem run_least {lp n : Nat} (hlp : lp < n) (a b : List Bool) {u : Nat → Bool} (h : ∀ i, i < n → (b.getD i false || (a.getD i false && u (nx lp n i))) = true → u i = true) : ∀ k i, i < n → run lp n a b k i = true → u i = true
  | 0, _, _, h' => by simp [run] at h'
  | k + 1, i, hi, h' => by
    rw [run] at h'
    apply h i hi
    have ih := run_least hlp a b h k (nx lp n i) (nx_lt hlp)
    revert h'
    cases b.getD i false <;> cases a.getD i false <;> simp
    exact ih

theorem ext_getD {a b : List Bool} {n : Nat} (ha : a.length = n) (hb : b.length = n) (h : ∀ i, i < n → a.getD i false = b.getD i false) : a = b := by
  apply List.ext_getElem (by rw [ha, hb])
  intro i h1 h2
  have := h i (by omega)
  simpa [List.getD, h1, h2] using this
theorem untL_get {lp : Nat} {a b : List Bool} {i : Nat} (hi : i < a.length) : (untL lp a b).getD i false = run lp a.length a b (a.length + 1) i := by
  simp [untL, List.getD, hi]
theorem range_get {n : Nat} (p : Nat → Bool) {i : Nat} (hi : i < n) : ((List.range n).map p).getD i false = p i := by simp [List.getD, hi]

section
variable {bits : Int → Nat → Bool} {n lp : Nat}
/-- What a tree says at a place. -/
def sat (bits : Int → Nat → Bool) (n lp : Nat) (t : Tr) (i : Nat) : Bool := (val bits n lp t).getD i false
theorem sat_true {m : Int} {i : Nat} (hi : i < n) : sat bits n lp (.leaf ⟨1, m⟩) i = true := by simp [sat, leafT, yesL, List.getD, hi]
theorem sat_false {m : Int} {i : Nat} (hi : i < n) : sat bits n lp (.leaf ⟨2, m⟩) i = false := by simp [sat, leafF, yesL, flipL, List.getD, hi]
theorem sat_prop {m : Int} {i : Nat} (hi : i < n) : sat bits n lp (.leaf ⟨3, m⟩) i = bits m i := by
  simp only [sat, val, placesL]
  simp only [show ¬ ((3 : Int) = 9) by decide, show ¬ ((3 : Int) = 10) by decide, show ¬ ((3 : Int) = 11) by decide, show ¬ ((3 : Int) = 12) by decide, if_false]
  rw [range_get _ hi]; simp [place1]
theorem sat_not {m : Int} {a : Tr} {i : Nat} (hi : i < n) : sat bits n lp (.un ⟨4, m⟩ a) i = !sat bits n lp a i := by
  simp only [sat, val, placesL]
  simp only [show ¬ ((4 : Int) = 9) by decide, show ¬ ((4 : Int) = 10) by decide, show ¬ ((4 : Int) = 11) by decide, show ¬ ((4 : Int) = 12) by decide, if_false]
  rw [range_get _ hi]; simp [place1]
theorem sat_next {m : Int} {a : Tr} {i : Nat} (hi : i < n) : sat bits n lp (.un ⟨8, m⟩ a) i = sat bits n lp a (nx lp n i) := by
  simp only [sat, val, placesL]
  simp only [show ¬ ((8 : Int) = 9) by decide, show ¬ ((8 : Int) = 10) by decide, show ¬ ((8 : Int) = 11) by decide, show ¬ ((8 : Int) = 12) by decide, if_false]
  rw [range_get _ hi]; simp [place1]
theorem sat_and {m : Int} {a b : Tr} {i : Nat} (hi : i < n) : sat bits n lp (.bin ⟨5, m⟩ a b) i = (sat bits n lp a i && sat bits n lp b i) := by
  simp only [sat, val, placesL]
  simp only [show ¬ ((5 : Int) = 9) by decide, show ¬ ((5 : Int) = 10) by decide, show ¬ ((5 : Int) = 11) by decide, show ¬ ((5 : Int) = 12) by decide, if_false]
  rw [range_get _ hi]; simp [place1]
theorem sat_or {m : Int} {a b : Tr} {i : Nat} (hi : i < n) : sat bits n lp (.bin ⟨6, m⟩ a b) i = (sat bits n lp a i || sat bits n lp b i) := by
  simp only [sat, val, placesL]
  simp only [show ¬ ((6 : Int) = 9) by decide, show ¬ ((6 : Int) = 10) by decide, show ¬ ((6 : Int) = 11) by decide, show ¬ ((6 : Int) = 12) by decide, if_false]
  rw [range_get _ hi]; simp [place1]
theorem sat_until_run {m : Int} {a b : Tr} (ha : a.ok) {i : Nat} (hi : i < n) : sat bits n lp (.bin ⟨9, m⟩ a b) i = run lp n (val bits n lp a) (val bits n lp b) (n + 1) i := by
  have hl : (val bits n lp a).length = n := val_len a ha
  show (placesL bits n lp ⟨9, m⟩ (val bits n lp a) (val bits n lp b)).getD i false = _
  rw [placesL, if_pos rfl, untL_get (by omega), hl]
theorem sat_rel_run {m : Int} {a b : Tr} (ha : a.ok) {i : Nat} (hi : i < n) : sat bits n lp (.bin ⟨10, m⟩ a b) i = !run lp n (flipL (val bits n lp a)) (flipL (val bits n lp b)) (n + 1) i := by
  have hl : (flipL (val bits n lp a)).length = n := by rw [flipL_len]; exact val_len a ha
  show (placesL bits n lp ⟨10, m⟩ (val bits n lp a) (val bits n lp b)).getD i false = _
  rw [placesL, if_neg (show ¬ ((10 : Int) = 9) by decide), if_pos rfl, flip_get (by rw [untL_len]; omega), untL_get (by omega), hl]
theorem sat_until {m : Int} {a b : Tr} (hlp : lp < n) (ha : a.ok) {i : Nat} (hi : i < n) : sat bits n lp (.bin ⟨9, m⟩ a b) i = (sat bits n lp b i || (sat bits n lp a i && sat bits n lp (.bin ⟨9, m⟩ a b) (nx lp n i))) := by
  rw [sat_until_run ha hi, sat_until_run ha (nx_lt hlp), run_fix hlp _ _ hi]; rfl
theorem sat_rel {m : Int} {a b : Tr} (hlp : lp < n) (ha : a.ok) (hb : b.ok) {i : Nat} (hi : i < n) : sat bits n lp (.bin ⟨10, m⟩ a b) i = (sat bits n lp b i && (sat bits n lp a i || sat bits n lp (.bin ⟨10, m⟩ a b) (nx lp n i))) := by
  rw [sat_rel_run ha hi, sat_rel_run ha (nx_lt hlp), run_fix hlp _ _ hi, flip_get (by rw [val_len b hb]; exact hi), flip_get (by rw [val_len a ha]; exact hi)]
  show _ = ((val bits n lp b).getD i false && ((val bits n lp a).getD i false || _))
  cases (val bits n lp b).getD i false <;> cases (val bits n lp a).getD i false <;> simp
/-- The until is the least of its kind, the release the greatest. -/
theorem sat_until_least {m : Int} {a b : Tr} (hlp : lp < n) (ha : a.ok) {u : Nat → Bool} (h : ∀ i, i < n → (sat bits n lp b i || (sat bits n lp a i && u (nx lp n i))) = true → u i = true) {i : Nat} (hi : i < n) (hs : sat bits n lp (.bin ⟨9, m⟩ a b) i = true) : u i = true := by
  rw [sat_until_run ha hi] at hs
  exact run_least hlp _ _ h _ i hi hs
theorem sat_rel_most {m : Int} {a b : Tr} (hlp : lp < n) (ha : a.ok) (hb : b.ok) {u : Nat → Bool} (h : ∀ i, i < n → u i = true → (sat bits n lp b i && (sat bits n lp a i || u (nx lp n i))) = true) {i : Nat} (hi : i < n) (hu : u i = true) : sat bits n lp (.bin ⟨10, m⟩ a b) i = true := by
  rw [sat_rel_run ha hi]
  by_cases hr : run lp n (flipL (val bits n lp a)) (flipL (val bits n lp b)) (n + 1) i = true
  · have := run_least hlp _ _ (u := fun j => !u j) (fun j hj hh => by
      rw [flip_get (by rw [val_len b hb]; exact hj), flip_get (by rw [val_len a ha]; exact hj)] at hh
      have h2 := h j hj
      revert hh h2
      show (!sat bits n lp b j || (!sat bits n lp a j && !u (nx lp n j))) = true → (u j = true → (sat bits n lp b j && (sat bits n lp a j || u (nx lp n j))) = true) → (!u j) = true
      cases sat bits n lp b j <;> cases sat bits n lp a j <;> cases u j <;> cases u (nx lp n j) <;> simp) _ i hi hr
    simp [hu] at this
  · simp [hr]
end
end Go.Proofs.YtamhjgkigjpbhaaDoor
