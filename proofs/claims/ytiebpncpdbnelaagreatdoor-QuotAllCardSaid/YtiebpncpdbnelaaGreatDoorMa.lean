/- Texts of one kind, in one file. -/
import Derived.Test.YtiebpncpdbnelaaGreatDoorShort
import Derived.WalkKit
import Derived.WalkSpells
import Derived.WalkLawsBesides
import Derived.Lib.Hide
import Derived.Deep.QuietTactic
import Derived.BigQuiet
import Derived.Maps.AppendAt
import Derived.Deep.Draws
import Derived.Laws.AppendOwnNone
namespace Go.Proofs.YtiebpncpdbnelaaGreatDoor
open Go.RowKit
theorem ret_int {k : IntKind} {a b : Int} (h : a = b) : Ending.returned (.int k a) = .returned (.int k b) := by rw [h]
theorem ret_bool {a b : Bool} (h : a = b) : Ending.returned (.bool a) = .returned (.bool b) := by rw [h]
def Rd (w : World) (B : Nat) (A : Option Addr) (xs : List Value) : Prop :=
 xs = [] ∨ ∃ b off, A = some ⟨b, off, none⟩ ∧ b < B ∧ ∀ j u, xs[j]? = some u → w.cell? ⟨b, off + j, none⟩ = some u
structure Tch (S : Nat → Prop) (w w' : World) : Prop where
 os : w'.os = w.os
 tape : w'.tape = w.tape
 output : w'.output = w.output
 size : w.1.size ≤ w'.1.size
 block : ∀ k, k < w.1.size → ¬ S k → w'.1[k]? = w.1[k]?
section
variable {S S' : Nat → Prop} {w w' w1 w2 : World} {B B' : Nat} {A : Option Addr} {xs : List Value}
theorem Tch.refl (S : Nat → Prop) (w : World) : Tch S w w := ⟨rfl, rfl, rfl, lR, fun _ _ _ => rfl⟩
theorem Tch.trans (h : Tch S w w1) (k : Tch S' w1 w2) (hs : ∀ i, i < w.1.size → S' i → S i) : Tch S w w2 :=
 ⟨k.os.trans h.os, k.tape.trans h.tape, k.output.trans h.output, Nat.le_trans h.size k.size,
  fun i hi hn => (k.block i (Nat.lt_of_lt_of_le hi h.size) (fun hs' => hn (hs i hi hs'))).trans (h.block i hi hn)⟩
theorem Tch.mono (h : Tch S w w') (hs : ∀ i, i < w.1.size → S i → S' i) : Tch S' w w' :=
 ⟨h.os, h.tape, h.output, h.size, fun i hi hn => h.block i hi (fun h' => hn (hs i hi h'))⟩
theorem Tch.drewN (h : Tch S w w') (n : Nat) : Tch S w (w'.drewN n) := ⟨h.os, h.tape, h.output, h.size, h.block⟩
theorem Tch.undrew (h : Tch S w.drew w') : Tch S w w' := ⟨h.os, h.tape, h.output, h.size, h.block⟩
theorem Tch.alloc (h : Tch S w w') (o : Obj) : Tch S w (w'.alloc o) :=
 ⟨h.os, h.tape, h.output, Nat.le_trans h.size (by simp), fun i hi hn => (Below.heap_alloc w' o i (Nat.lt_of_lt_of_le hi h.size)).trans (h.block i hi hn)⟩
theorem Tch.setCell (h : Tch S w w') {p : Addr} (hp : p.block < w.1.size → S p.block) (u : Value) : Tch S w (w'.setCell p u) :=
 ⟨h.os, h.tape, h.output, by simpa [World.setCell] using h.size, fun i hi hn => (Below.heap_setCell w' p u i (fun e => hn (e ▸ hp (e ▸ hi)))).trans (h.block i hi hn)⟩
theorem Tch.of_grown {row : Option Nat} (h : w.grownBy w' row) : Tch (fun k => row = some k) w w' :=
 ⟨h.os, h.tape, h.output, h.size, fun i hi hn => h.block i hi (fun e => hn e.symm)⟩
theorem Tch.of_below (h : Below B w w') : Tch (fun k => B ≤ k) w w' := ⟨h.os, h.tape, h.output, h.size, fun i _ hn => h.block i (by omega)⟩
theorem Tch.below (h : Tch S w w') (hB : B ≤ w.1.size) (hs : ∀ k, k < B → ¬ S k) : Below B w w' :=
 ⟨h.os, h.tape, h.output, h.size, fun k hk => h.block k (by omega) (hs k hk)⟩
theorem Tch.blk (h : Tch S w w') {g : Nat} {o : Obj} (hg : w.1[g]? = some o) (hn : ¬ S g) : w'.1[g]? = some o :=
 (h.block g (lt_of_heap hg) hn).trans hg
where lt_of_heap {w : World} {g : Nat} {o : Obj} (h : w.1[g]? = some o) : g < w.1.size := (aI.1 h).1
theorem own_tch {base : Nat} {e : TypeId} {size : Nat} {v : Value} {n : Nat} (h : w.ownsRow base e size v n xs) (ht : Tch S w w') (hn : ∀ g, v.ownBlock = some g → ¬ S g) : w'.ownsRow base e size v n xs := by
 obtain ⟨h1, h2⟩ := h
 refine ⟨h1, ?_⟩
 rcases h2 with h2 | ⟨g, cap, cur, rfl, hg, hh, r⟩
 ·exact .inl h2
 ·exact .inr ⟨g, cap, cur, rfl, hg, ht.blk hh (hn g (by simp [Value.ownBlock])), r⟩
theorem own_below {base : Nat} {e : TypeId} {size : Nat} {v : Value} {n : Nat} (h : w.ownsRow base e size v n xs) (ht : Below w.1.size w w') : w'.ownsRow base e size v n xs :=
 own_tch h (Tch.of_below ht) (fun g hg => by have := (h.lt g hg).2; omega)
theorem own_base {base base' : Nat} {e : TypeId} {size : Nat} {v : Value} {n : Nat} (h : w.ownsRow base e size v n xs) (hb : base' ≤ base) : w.ownsRow base' e size v n xs := by
 obtain ⟨h1, h2⟩ := h
 refine ⟨h1, ?_⟩
 rcases h2 with h2 | ⟨g, cap, cur, rfl, hg, r⟩
 ·exact .inl h2
 ·exact .inr ⟨g, cap, cur, rfl, by omega, r⟩
theorem own_cut {base : Nat} {e : TypeId} {size g c : Nat} {n k : Nat} (h : w.ownsRow base e size (.slice (some ⟨g, 0, none⟩) n c) n xs) (hk : k ≤ n) :
  w.ownsRow base e size (.slice (some ⟨g, 0, none⟩) k c) k (xs.take (k * size)) := by
 obtain ⟨h1, h2⟩ := h
 rcases h2 with ⟨h0, _⟩ | ⟨g', cap', cur, hv, hg, hh, hn, hcap, hsz, htake⟩
 ·cases h0
 ·cases hv
  have hm : k * size ≤ n * size := Nat.mul_le_mul_right _ hk
  refine ⟨by rw [List.length_take, h1]; omega, .inr ⟨g, c, cur, rfl, hg, hh, by omega, hcap, hsz, ?_⟩⟩
  rw [← htake, List.take_take, Nat.min_eq_left hm]
theorem own_cut_any {base : Nat} {e : TypeId} {size c : Nat} {n k : Nat} {A : Option Addr} (h : w.ownsRow base e size (.slice A n c) n xs) (hk : k ≤ n) :
  w.ownsRow base e size (.slice A k c) k (xs.take (k * size)) := by
 have h' := h
 obtain ⟨h1, h2⟩ := h'
 rcases h2 with ⟨h0, h00⟩ | ⟨g', cap', cur, hv, hg, hh, hn, hcap, hsz, htake⟩
 ·cases h0
  have : k = 0 := by omega
  subst this
  exact ⟨by simp, .inl ⟨rfl, rfl⟩⟩
 ·cases hv
  exact own_cut h hk
theorem own_form {base : Nat} {e : TypeId} {size : Nat} {v : Value} {n : Nat} (h : w.ownsRow base e size v n xs) (hn : 0 < n) :
  ∃ g cap, v = .slice (some ⟨g, 0, none⟩) n cap ∧ base ≤ g ∧ g < w.1.size ∧ n ≤ cap ∧ cap ≤ maxLen := by
 rcases h.2 with ⟨_, h0⟩ | ⟨g, cap, cur, hv, hg, hh, hnc, hcap, _⟩
 ·omega
 ·exact ⟨g, cap, hv, hg, (aI.1 hh).1, hnc, hcap⟩
theorem own_any {base : Nat} {e : TypeId} {size : Nat} {v : Value} {n : Nat} (h : w.ownsRow base e size v n xs) :
  ∃ A cap, v = .slice A n cap ∧ n ≤ cap ∧ cap ≤ maxLen ∧ Rd w w.1.size A xs := by
 rcases h.2 with ⟨hv, h0⟩ | ⟨g, cap, cur, hv, hg, hh, hnc, hcap, hsz, htake⟩
 ·have hx : xs = [] := List.eq_nil_of_length_eq_zero (by rw [h.1, h0]; simp)
  exact ⟨none, 0, by rw [hv, h0], by omega, by unfold maxLen; omega, .inl hx⟩
 ·refine ⟨_, cap, hv, hnc, hcap, .inr ⟨g, 0, rfl, (aI.1 hh).1, fun j u hu => ?_⟩⟩
  have hc := h.cells (g := g) (by simp [hv, Value.ownBlock]) j u hu
  have hadd : (⟨g, 0, none⟩ : Addr).add j = ⟨g, 0 + j, none⟩ := by
   unfold Addr.add
   split
   ·rename_i h; subst h; rfl
   ·rfl
  rw [← hadd]
  exact hc
theorem own_ne {base base' : Nat} {e e' : TypeId} {size size' : Nat} {v v' : Value} {n n' : Nat} {xs' : List Value} (h : w.ownsRow base e size v n xs) (h' : w.ownsRow base' e' size' v' n' xs') (hne : e ≠ e') :
  ∀ g, v.ownBlock = some g → ¬ (v'.ownBlock = some g) := by
 intro g hg hg'
 rcases h.2 with ⟨rfl, _⟩ | ⟨k, cap, cur, rfl, _, hh, _⟩
 ·simp [Value.ownBlock] at hg
 rcases h'.2 with ⟨rfl, _⟩ | ⟨k', cap', cur', rfl, _, hh', _⟩
 ·simp [Value.ownBlock] at hg'
 simp [Value.ownBlock] at hg hg'
 subst hg; subst hg'
 rw [hh] at hh'
 injection hh' with hh'
 injection hh' with _ ht
 exact hne ht
theorem own_ne_blk {base : Nat} {e t : TypeId} {size : Nat} {v : Value} {n b : Nat} {cs : Array Value} (h : w.ownsRow base e size v n xs) (hb : w.1[b]? = some (.cells cs t (0, 0))) (hne : e ≠ t) : v.ownBlock ≠ some b := by
 intro hg
 rcases h.2 with ⟨rfl, _⟩ | ⟨k, cap, cur, rfl, _, hh, _⟩
 ·simp [Value.ownBlock] at hg
 simp [Value.ownBlock] at hg
 subst hg
 rw [hb] at hh
 injection hh with hh
 injection hh with _ ht
 exact hne ht.symm
theorem Rd.at_ (h : Rd w B A xs) {j : Nat} {u : Value} (hj : xs[j]? = some u) : ∃ b off, A = some ⟨b, off, none⟩ ∧ b < B ∧ w.cell? ⟨b, off + j, none⟩ = some u := by
 rcases h with h | ⟨b, off, hA, hb, hc⟩
 ·rw [h] at hj; simp at hj
 ·exact ⟨b, off, hA, hb, hc j u hj⟩
theorem Rd.below (h : Rd w B A xs) (hb : Below B' w w') (hB : B ≤ B') : Rd w' B A xs := by
 rcases h with h | ⟨b, off, hA, hlt, hc⟩
 ·exact .inl h
 ·exact .inr ⟨b, off, hA, hlt, fun j u hj => bC hb (by omega) (hc j u hj)⟩
theorem Rd.tch (h : Rd w B A xs) (ht : Tch S w w') (hB : B ≤ w.1.size) (hs : ∀ b, b < B → ¬ S b) : Rd w' B A xs :=
 h.below (ht.below hB hs) lR
theorem Rd.up (h : Rd w B A xs) (hB : B ≤ B') : Rd w B' A xs := by
 rcases h with h | ⟨b, off, hA, hlt, hc⟩
 ·exact .inl h
 ·exact .inr ⟨b, off, hA, by omega, hc⟩
end
structure Sl (w : World) (B size : Nat) (A : Option Addr) (n c : Nat) (xs : List Value) : Prop where
 len : xs.length = n * size
 cap : n ≤ c
 max : c ≤ maxLen
 nil : A = none → c = 0
 rd : Rd w B A xs
section
variable {S : Nat → Prop} {w w' : World} {B B' size n c : Nat} {A : Option Addr} {xs : List Value}
theorem Sl.none_ (w : World) (B size : Nat) : Sl w B size none 0 0 [] := ⟨by simp, lR, by unfold maxLen; omega, fun _ => rfl, .inl rfl⟩
theorem Sl.below (h : Sl w B size A n c xs) (hb : Below B' w w') (hB : B ≤ B') : Sl w' B size A n c xs := { h with rd := h.rd.below hb hB }
theorem Sl.up (h : Sl w B size A n c xs) (hB : B ≤ B') : Sl w B' size A n c xs := { h with rd := h.rd.up hB }
theorem Sl.tch (h : Sl w B size A n c xs) (ht : Tch S w w') (hB : B ≤ w.1.size) (hs : ∀ b, b < B → ¬ S b) : Sl w' B size A n c xs := { h with rd := h.rd.tch ht hB hs }
theorem ownBlock_eq (A : Option Addr) (n n' c c' : Nat) : (Value.slice A n c).ownBlock = (Value.slice A n' c').ownBlock := by cases A <;> rfl
theorem own_sl {base : Nat} {e : TypeId} {v : Value} (h : w.ownsRow base e size v n xs) : ∃ A c, v = .slice A n c ∧ Sl w w.1.size size A n c xs := by
 obtain ⟨A, c, hv, h1, h2, h3⟩ := own_any h
 refine ⟨A, c, hv, h.1, h1, h2, fun ha => ?_, h3⟩
 rcases h.2 with ⟨h0, _⟩ | ⟨g, cap, cur, h0, _⟩
 ·rw [h0] at hv; cases hv; rfl
 ·rw [h0, ha] at hv; cases hv
end
def SliceT (P : Program) (t e size bytes : Nat) : Prop :=
 P.underlying t = some (.slice e) ∧ 0 < size ∧ ∃ i z, P.info? e = some i ∧ i.zero = some z ∧ i.size = size ∧ i.bytes = bytes ∧ z.cells.size = size
theorem SliceT.mk {P : Program} {t e size bytes : Nat} {z : Value} (ht : P.underlying t = some (.slice e)) (hi : (P.info? e).map (fun i => (i.zero, i.size, i.bytes)) = some (some z, size, bytes))
  (hz : z.cells.size = size) (hs : 0 < size) : SliceT P t e size bytes := by
 obtain ⟨i, h1, h2, h3, h4⟩ := info_parts hi
 exact ⟨ht, hs, i, z, h1, h2, h3, h4, hz⟩
section
variable {P : Program} {ops : Array Oper} {rest : List Oper} {o : Oper} {a : Act} {Q : Exit → Act → World → Prop} {w : World}
theorem wpList_push (hgd : o.guard = none) (s x : Operand) (t : TypeId) (ho : o.op = .call { callee := .builtin .append, args := #[s, x], argTypes := #[t, t] })
  (base e size bytes : Nat) (T : SliceT P t e size bytes) (v : Value) (n : Nat) (xs : List Value) (hown : w.ownsRow base e size v n xs) (hs : a.eval s = v)
  (g : Nat) (cs : Array Value) (hx : a.eval x = .slice (some ⟨g, 0, none⟩) 1 1) (hg : w.1[g]? = some (.cells cs e (0, 0))) (hl : cs.size = size) (h1 : ∀ u ∈ cs.toList, u.oneCell' = true)
  (hn : n + 1 ≤ 1000000000000) (hby : bytes ≤ 128) (hbase : base ≤ w.1.size)
  (h : ∀ v' w', w'.ownsRow base e size v' (n + 1) (xs ++ cs.toList) → Tch (fun k => v.ownBlock = some k) w w' → (v'.ownBlock = v.ownBlock ∨ v'.ownBlock = some w.1.size) → v' ≠ .slice none 0 0 → wpList P ops Q rest (a.put o.dst v') w') :
  wpList P ops Q (o :: rest) a w := by
 obtain ⟨ht, hsz, i, z, hi, hz, hs1, hb1, hz1⟩ := T
 have hnews : ∀ j u, cs.toList[j]? = some u → w.cell? ((⟨g, 0, none⟩ : Addr).add j) = some u := by
  intro j u hu
  have hadd : (⟨g, 0, none⟩ : Addr).add j = ⟨g, j, none⟩ := by
   unfold Addr.add
   split
   ·rename_i h; subst h; rfl
   ·simp
  rw [hadd, cell_of_row w g j cs e (0, 0) hg]
  simpa using hu
 have hbb : (n + 1) * bytes ≤ 140737488355328 := by
  have : (n + 1) * bytes ≤ 1000000000000 * 128 := Nat.mul_le_mul hn hby
  omega
 exact wpList_append_own_at w hgd s x t ho base e i z size bytes ht hi hz hs1 hb1 hz1 hsz v n xs hs hown ⟨g, 0, none⟩ 1 1 cs.toList hx (by simp [hl]) hnews h1 (by unfold maxLen; omega) hbb hbase
  (fun v' w' h2 h3 h4 h5 => h v' w' h2 (Tch.of_grown h3) h5 (fun e => by have := (h4.1 e).2; omega))
theorem step_push {K : Act → World → Prop} {E : Prop} (hgd : o.guard = none) (s x : Operand) (t : TypeId) (ho : o.op = .call { callee := .builtin .append, args := #[s, x], argTypes := #[t, t] })
  (base e size bytes : Nat) (T : SliceT P t e size bytes) (v : Value) (n : Nat) (xs : List Value) (hown : w.ownsRow base e size v n xs) (hs : a.eval s = v)
  (g : Nat) (cs : Array Value) (hx : a.eval x = .slice (some ⟨g, 0, none⟩) 1 1) (hg : w.1[g]? = some (.cells cs e (0, 0))) (hl : cs.size = size) (h1 : ∀ u ∈ cs.toList, u.oneCell' = true)
  (hn : n + 1 ≤ 1000000000000) (hby : bytes ≤ 128) (hbase : base ≤ w.1.size)
  (h : ∀ v' w', w'.ownsRow base e size v' (n + 1) (xs ++ cs.toList) → Tch (fun k => v.ownBlock = some k) w w' → (v'.ownBlock = v.ownBlock ∨ v'.ownBlock = some w.1.size) → v' ≠ .slice none 0 0 → K (a.put o.dst v') w') :
  if Region.wanted o (yielded ops a.tmps) = true then Oper.wp P o a w K Q else E := by
 have hw : Region.wanted o (yielded ops a.tmps) = true := by simp [Region.wanted, hgd]
 rw [if_pos hw]
 obtain ⟨ht, hsz, i, z, hi, hz, hs1, hb1, hz1⟩ := T
 have hnews : ∀ j u, cs.toList[j]? = some u → w.cell? ((⟨g, 0, none⟩ : Addr).add j) = some u := by
  intro j u hu
  have hadd : (⟨g, 0, none⟩ : Addr).add j = ⟨g, j, none⟩ := by
   unfold Addr.add
   split
   ·rename_i h; subst h; rfl
   ·simp
  rw [hadd, cell_of_row w g j cs e (0, 0) hg]
  simpa using hu
 have hbb : (n + 1) * bytes ≤ 140737488355328 := by
  have : (n + 1) * bytes ≤ 1000000000000 * 128 := Nat.mul_le_mul hn hby
  omega
 obtain ⟨v', w', hr, h2, h3, h4, h5⟩ := run_append_own_at (P := P) w base t o.type e i z size bytes ht hi hz hs1 hb1 hz1 hsz v n xs hown ⟨g, 0, none⟩ 1 1 cs.toList (by simp [hl]) hnews h1 (by unfold maxLen; omega) hbb hbase
 unfold Oper.wp execOp
 simp only [ho, resolve, invoke, builtin, Sem.run_bind, Sem.run_pure, Result.andThen_ok, List.map_toArray, List.map_cons, List.map_nil, hs, hx, hr]
 exact h v' w' h2 (Tch.of_grown h3) h5 (fun e => by have := (h4.1 e).2; omega)
theorem wpList_extend (hgd : o.guard = none) (s x : Operand) (t : TypeId) (ho : o.op = .call { callee := .builtin .append, args := #[s, x], argTypes := #[t, t] })
  (base e size bytes : Nat) (T : SliceT P t e size bytes) (v : Value) (n : Nat) (xs : List Value) (hown : w.ownsRow base e size v n xs) (hs : a.eval s = v)
  (B : Nat) (A : Option Addr) (m c : Nat) (news : List Value) (hx : a.eval x = .slice A m c) (hr : Sl w B size A m c news) (h1 : ∀ u ∈ news, u.oneCell' = true)
  (hn : n + m ≤ 1000000000000) (hby : bytes ≤ 128) (hbase : base ≤ w.1.size)
  (h : ∀ v' w', w'.ownsRow base e size v' (n + m) (xs ++ news) → Tch (fun k => v.ownBlock = some k) w w' → (v'.ownBlock = v.ownBlock ∨ v'.ownBlock = some w.1.size) → (v' = .slice none 0 0 ↔ v = .slice none 0 0 ∧ m = 0) → wpList P ops Q rest (a.put o.dst v') w') :
  wpList P ops Q (o :: rest) a w := by
 obtain ⟨ht, hsz, i, z, hi, hz, hs1, hb1, hz1⟩ := T
 have hbb : (n + m) * bytes ≤ 140737488355328 := by
  have : (n + m) * bytes ≤ 1000000000000 * 128 := Nat.mul_le_mul hn hby
  omega
 rcases A with _ | ad
 ·have hc : c = 0 := hr.nil rfl
  have hm : m = 0 := by have := hr.cap; omega
  subst hc; subst hm
  have hnews : news = [] := List.eq_nil_of_length_eq_zero (by rw [hr.len]; simp)
  subst hnews
  exact wpList_append_own_none hgd s x t ho base e i size ht hi v n xs hs hown hx
   (h v w (by simpa using hown) (Tch.refl _ _) (.inl rfl) (by simp))
 ·have hnews : ∀ j u, news[j]? = some u → w.cell? (ad.add j) = some u := by
   intro j u hu
   obtain ⟨b, off, hA, _, hc⟩ := hr.rd.at_ hu
   cases hA
   have hadd : (⟨b, off, none⟩ : Addr).add j = ⟨b, off + j, none⟩ := by
    unfold Addr.add
    split
    ·rename_i h; subst h; rfl
    ·rfl
   rw [hadd]; exact hc
  exact wpList_append_own_at w hgd s x t ho base e i z size bytes ht hi hz hs1 hb1 hz1 hsz v n xs hs hown ad m c news hx hr.len hnews h1 (by unfold maxLen; omega) hbb hbase
   (fun v' w' h2 h3 h4 h5 => h v' w' h2 (Tch.of_grown h3) h5 h4)
end
end Go.Proofs.YtiebpncpdbnelaaGreatDoor
namespace Go.Proofs.YtiebpncpdbnelaaGreatDoor
open Go.RowKit
structure Nd where
 op : Int
 n : Int
 deriving DecidableEq
def takes (op : Int) : Int :=
 if op = 1 ∨ op = 2 ∨ op = 3 then 0 else if op = 4 ∨ op = 8 ∨ op = 11 ∨ op = 12 then 1
 else if op = 5 ∨ op = 6 ∨ op = 7 ∨ op = 9 ∨ op = 10 then 2 else -1
theorem take_snoc {α : Type} (f : List α) (k : Nat) (h : k < f.length) : f.take (k + 1) = f.take k ++ [f[k]] := by
 rw [List.take_succ_eq_append_getElem h]
def ncells (f : List Nd) : List Value := f.flatMap fun x => [.int .i64 x.op, .int .i64 x.n]
theorem ncells_len (f : List Nd) : (ncells f).length = f.length * 2 := by
 induction f with
 | nil => rfl
 | cons x r ih => simp [ncells] at ih ⊢; omega
theorem ncells0 (f : List Nd) (k : Nat) : (ncells f)[k * 2]? = f[k]?.map fun x => .int .i64 x.op := by
 induction f generalizing k with
 | nil => simp [ncells]
 | cons x r ih => cases k with
  | zero => simp [ncells]
  | succ k => have := ih k; simp [ncells, Nat.succ_mul] at this ⊢; exact this
theorem ncells1 (f : List Nd) (k : Nat) : (ncells f)[k * 2 + 1]? = f[k]?.map fun x => .int .i64 x.n := by
 induction f generalizing k with
 | nil => simp [ncells]
 | cons x r ih => cases k with
  | zero => simp [ncells]
  | succ k => have := ih k; simp [ncells, Nat.succ_mul] at this ⊢; exact this
theorem ncells_append (f g : List Nd) : ncells (f ++ g) = ncells f ++ ncells g := by simp [ncells]
theorem rd_nd {w : World} {B : Nat} {A : Option Addr} {f : List Nd} (h : Rd w B A (ncells f)) {k : Nat} (hk : k < f.length) :
  ∃ b off, A = some ⟨b, off, none⟩ ∧ b < B ∧ w.cell? ⟨b, off + k * 2, none⟩ = some (.int .i64 f[k].op) ∧ w.cell? ⟨b, off + k * 2 + 1, none⟩ = some (.int .i64 f[k].n) := by
 rcases h with h | ⟨b, off, hA, hb, hc⟩
 ·have := ncells0 f k; rw [h] at this; simp [hk] at this
 ·exact ⟨b, off, hA, hb, hc _ _ (by rw [ncells0]; simp [hk]), by rw [Nat.add_assoc]; exact hc _ _ (by rw [ncells1]; simp [hk])⟩
def icells (l : List Int) : List Value := l.map (.int .i64)
theorem icells_len (l : List Int) : (icells l).length = l.length * 1 := by simp [icells]
theorem icells_one (l : List Int) : ∀ u ∈ icells l, u.oneCell' = true := by
 intro u hu
 simp only [icells, List.mem_map] at hu
 obtain ⟨x, _, rfl⟩ := hu
 rfl
theorem icells_append (l m : List Int) : icells (l ++ m) = icells l ++ icells m := by simp [icells]
theorem rd_int {w : World} {B : Nat} {A : Option Addr} {l : List Int} (h : Rd w B A (icells l)) {k : Nat} (hk : k < l.length) :
  ∃ b off, A = some ⟨b, off, none⟩ ∧ b < B ∧ w.cell? ⟨b, off + k, none⟩ = some (.int .i64 l[k]) := by
 exact h.at_ (by simp [icells, hk])
end Go.Proofs.YtiebpncpdbnelaaGreatDoor
namespace Go.Proofs.YtiebpncpdbnelaaGreatDoor
open Go.RowKit
def NewRow (w : World) (e size n : Nat) (xs : List Value) (nil : Prop) (en : Ending) (w' : World) : Prop :=
 ∃ v, en = .returned v ∧ w'.ownsRow w.1.size e size v n xs ∧ Below w.1.size w w' ∧ (v = .slice none 0 0 ↔ nil)
def Num (w : World) (k : Int) (en : Ending) (w' : World) : Prop := en = .returned (.int .i64 k) ∧ Below w.1.size w w'
def NumU (w : World) (k : Int) (en : Ending) (w' : World) : Prop := en = .returned (.int .u64 k) ∧ Below w.1.size w w'
def Said (w : World) (b : Bool) (en : Ending) (w' : World) : Prop := en = .returned (.bool b) ∧ ∃ n, w' = w.drewN n
def Tru (w : World) (b : Bool) (en : Ending) (w' : World) : Prop := en = .returned (.bool b) ∧ Below w.1.size w w'
def Fnd (w : World) (b : Bool) (en : Ending) (w' : World) : Prop := ∃ k : Int, en = .returned (.int .i64 k) ∧ -1 ≤ k ∧ k ≤ 9223372036854775807 ∧ Below w.1.size w w' ∧ decide (0 ≤ k) = b
end Go.Proofs.YtiebpncpdbnelaaGreatDoor
namespace Go.Proofs.YtiebpncpdbnelaaGreatDoor
open Go.RowKit
theorem take_eq_snoc {α : Type} {xs ys : List α} {k : Nat} (h : xs.take k = ys.take k) (hx : k < xs.length) (hy : k < ys.length) (he : xs[k] = ys[k]) : xs.take (k + 1) = ys.take (k + 1) := by
 rw [take_snoc xs k hx, take_snoc ys k hy, h, he]
end Go.Proofs.YtiebpncpdbnelaaGreatDoor
namespace Go.Proofs.YtiebpncpdbnelaaGreatDoor
inductive Tr where
 | leaf (x : Nd)
 | un (x : Nd) (a : Tr)
 | bin (x : Nd) (a b : Tr)
def Tr.size : Tr → Nat
 | .leaf _ => 1
 | .un _ a => a.size + 1
 | .bin _ a b => a.size + b.size + 1
def Tr.ok : Tr → Prop
 | .leaf x => takes x.op = 0 ∧ (x.op = 3 → 0 ≤ x.n ∧ x.n < 8)
 | .un x a => takes x.op = 1 ∧ a.ok
 | .bin x a b => takes x.op = 2 ∧ a.ok ∧ b.ok
end Go.Proofs.YtiebpncpdbnelaaGreatDoor
namespace Go.Proofs.YtiebpncpdbnelaaGreatDoor
def nx (lp n i : Nat) : Nat := if i + 1 < n then i + 1 else lp
def run (lp n : Nat) (a b : List Bool) : Nat → Nat → Bool
 | 0, _ => false
 | k + 1, i => b.getD i false || (a.getD i false && run lp n a b k (nx lp n i))
end Go.Proofs.YtiebpncpdbnelaaGreatDoor
