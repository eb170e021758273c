/- Texts that stand one behind the other, in one file. -/
import Derived.Test.YtiebpncpdbnelaaGreatDoorZab
import Derived.Test.YtiebpncpdbnelaaGreatDoorProg
import Derived.OwnWalk
import Derived.Outline
set_option maxHeartbeats 1000000
namespace Go.Proofs.YtiebpncpdbnelaaGreatDoor
theorem SubB.refl (z : List Bool) : SubB z z := fun _ h => h
theorem SubB.trans {x y z : List Bool} (h : SubB x y) (k : SubB y z) : SubB x z := fun i a => k i (h i a)
def roundZ (E : List (List Nd)) (asks : List (Nat → Bool)) (z : List Bool) : List Bool := asks.foldl (stepZ E) z
theorem roundZ_len (E : List (List Nd)) : ∀ (asks : List (Nat → Bool)) (z : List Bool), (roundZ E asks z).length = z.length
 | [], _ => rfl
 | p :: l, z => by
  show (roundZ E l (stepZ E z p)).length = _
  rw [roundZ_len E l, stepZ_len]
theorem roundZ_sub {E : List (List Nd)} : ∀ (asks : List (Nat → Bool)) {z : List Bool}, z.length = E.length → SubB (roundZ E asks z) z
 | [], _, _ => SubB.refl _
 | p :: l, z, hz => (roundZ_sub l (z := stepZ E z p) (by rw [stepZ_len]; exact hz)).trans (step_sub hz)
def Fixd (E : List (List Nd)) (asks : List (Nat → Bool)) (z : List Bool) : Prop := ∀ p ∈ asks, SubB z (stepZ E z p)
theorem roundZ_inv {E : List (List Nd)} {y : List Bool} (hy : y.length = E.length) : ∀ (asks : List (Nat → Bool)) {z : List Bool}, z.length = E.length → Fixd E asks y → SubB y z → SubB y (roundZ E asks z)
 | [], _, _, _, h => h
 | p :: l, z, hz, hf, h => roundZ_inv hy l (z := stepZ E z p) (by rw [stepZ_len]; exact hz) (fun q hq => hf q (List.mem_cons_of_mem _ hq))
   ((hf p (List.mem_cons_self ..)).trans (step_mono hy hz h (fun _ a => a)))
theorem roundZ_fix {E : List (List Nd)} : ∀ (asks : List (Nat → Bool)) {z : List Bool}, z.length = E.length → SubB z (roundZ E asks z) → Fixd E asks z
 | [], _, _, _ => fun _ h => by cases h
 | p :: l, z, hz, h => by
  have h1 : SubB (roundZ E l (stepZ E z p)) (stepZ E z p) := roundZ_sub l (by rw [stepZ_len]; exact hz)
  have h2 : SubB z (stepZ E z p) := h.trans h1
  have h3 : stepZ E z p = z := sub_anti (stepZ_len _ _ _) (step_sub hz) h2
  intro q hq
  rcases List.mem_cons.1 hq with rfl | hq
  ·exact h2
  ·refine roundZ_fix l hz ?_ q hq
   have : roundZ E (p :: l) z = roundZ E l z := by
    show roundZ E l (stepZ E z p) = _
    rw [h3]
   rw [← this]; exact h
def Gfp (E : List (List Nd)) (asks : List (Nat → Bool)) (z : List Bool) : Prop := z.length = E.length ∧ Fixd E asks z ∧ ∀ y : List Bool, y.length = E.length → Fixd E asks y → SubB y z
def GInv (E : List (List Nd)) (asks : List (Nat → Bool)) (z : List Bool) : Prop := z.length = E.length ∧ ∀ y : List Bool, y.length = E.length → Fixd E asks y → SubB y z
theorem GInv.start (E : List (List Nd)) (asks : List (Nat → Bool)) : GInv E asks (List.replicate E.length true) :=
 ⟨by simp, fun y hy _ i hi => by
  have := getD_lt hi
  simp only [List.getD]
  rw [List.getElem?_replicate, if_pos (by omega)]; rfl⟩
theorem GInv.round {E : List (List Nd)} {asks : List (Nat → Bool)} {z : List Bool} (h : GInv E asks z) : GInv E asks (roundZ E asks z) :=
 ⟨by rw [roundZ_len]; exact h.1, fun y hy hf => roundZ_inv hy asks h.1 hf (h.2 y hy hf)⟩
theorem GInv.done {E : List (List Nd)} {asks : List (Nat → Bool)} {z : List Bool} (h : GInv E asks z) (hs : SubB z (roundZ E asks z)) : Gfp E asks z := ⟨h.1, roundZ_fix asks h.1 hs, h.2⟩
def cntB (z : List Bool) : Nat := z.countP (fun b => b)
theorem cntB_le (z : List Bool) : cntB z ≤ z.length := List.countP_le_length
end Go.Proofs.YtiebpncpdbnelaaGreatDoor
namespace Go.Proofs.YtiebpncpdbnelaaGreatDoor
structure ANd where
 need : Nat
 ban : Nat
 inn : Nat
 to : List Int
def ANd.none : ANd := ⟨0, 0, 0, []⟩
structure Aut where
 sets : Int
 init : List Int
 nodes : List ANd
def Aut.Ok (a : Aut) : Prop := (∀ i ∈ a.init, isNd a.nodes.length i = true) ∧ ∀ x ∈ a.nodes, ∀ t ∈ x.to, isNd a.nodes.length t = true
def Aut.at (a : Aut) (q : Nat) : ANd := a.nodes.getD q ANd.none
section
variable {a : Aut} {W : List Nat} {lp : Nat}
end
end Go.Proofs.YtiebpncpdbnelaaGreatDoor
namespace Go.Proofs.YtiebpncpdbnelaaGreatDoor
def chkNd (N : Nat) (s : Int) (x : ANd) : Int := if x.to.all (isNd N) = true then (if x.inn >>> s.toNat = 0 then 0 else 3) else 10
def chkNds (N : Nat) (s : Int) : List ANd → Int
 | [] => 0
 | x :: r => if chkNd N s x = 0 then chkNds N s r else chkNd N s x
def chkA (a : Aut) : Int := if 256 < a.nodes.length ∨ 16 < a.sets then 11 else if a.sets < 0 then 10 else if a.init.all (isNd a.nodes.length) = true then chkNds a.nodes.length a.sets a.nodes else 10
theorem chkNds_ok {N : Nat} {s : Int} : ∀ {l : List ANd}, (∀ x ∈ l, chkNd N s x = 0) → chkNds N s l = 0
 | [], _ => rfl
 | x :: r, h => by
  unfold chkNds
  rw [if_pos (h x (by simp))]
  exact chkNds_ok (fun y hy => h y (by simp [hy]))
theorem chkNds_at {N : Nat} {s : Int} : ∀ {l : List ANd} {i : Nat} (hi : i < l.length), (∀ x ∈ l.take i, chkNd N s x = 0) → chkNd N s l[i] ≠ 0 → chkNds N s l = chkNd N s l[i]
 | x :: r, 0, _, _, hx => by
  unfold chkNds
  rw [if_neg (by simpa using hx)]; rfl
 | x :: r, i + 1, hi, h, hx => by
  unfold chkNds
  rw [if_pos (h x (by simp))]
  simp only [List.getElem_cons_succ] at hx ⊢
  exact chkNds_at (by simpa using hi) (fun y hy => h y (by simp [hy])) hx
theorem chkA_zero {a : Aut} (h1 : a.nodes.length ≤ 256) (h2 : 0 ≤ a.sets ∧ a.sets ≤ 16) (h3 : a.Ok) (h4 : ∀ x ∈ a.nodes, x.inn < 2 ^ a.sets.toNat) : chkA a = 0 := by
 unfold chkA
 rw [if_neg (by omega), if_neg (by omega), if_pos (List.all_eq_true.2 (fun i hi => h3.1 i hi))]
 refine chkNds_ok (fun x hx => ?_)
 unfold chkNd
 rw [if_pos (List.all_eq_true.2 (fun t ht => h3.2 x hx t ht)), if_pos (by rw [Nat.shiftRight_eq_div_pow]; exact Nat.div_eq_of_lt (h4 x hx))]
theorem all_takeS {α : Type} {l : List α} {P : α → Prop} {i : Nat} (hi : i < l.length) (h : ∀ x ∈ l.take i, P x) (hx : P l[i]) : ∀ x ∈ l.take (i + 1), P x := by
 intro x hm
 rw [take_snoc l i hi] at hm
 rcases List.mem_append.1 hm with hm | hm
 ·exact h x hm
 ·rw [mS] at hm; subst hm; exact hx
end Go.Proofs.YtiebpncpdbnelaaGreatDoor
namespace Go.Proofs.YtiebpncpdbnelaaGreatDoor
open Go.RowKit
def bcells (l : List Bool) : List Value := l.map .bool
theorem bcells_len (l : List Bool) : (bcells l).length = l.length := by simp [bcells]
theorem bcells_append (l r : List Bool) : bcells (l ++ r) = bcells l ++ bcells r := by simp [bcells]
theorem bcells_one (l : List Bool) : ∀ u ∈ bcells l, u.oneCell' = true := by
 intro u hu
 obtain ⟨b, _, rfl⟩ := List.mem_map.1 hu
 rfl
theorem sliceBool : SliceT Tryz.prog 48 4 1 1 :=
 SliceT.mk (z := .bool false) Tryz.underlying48 (by kernel_rfl) (by decide) (by decide)
theorem infoBool : (Tryz.prog.info? 4).map (fun i => (i.zero, i.size, i.bytes)) = some (some (.bool false), 1, 1) := by kernel_rfl
theorem sliceRows : SliceT Tryz.prog 41 48 1 24 :=
 SliceT.mk (z := .slice none 0 0) Tryz.underlying41 (by kernel_rfl) (by decide) (by decide)
def Grid (w w' : World) (v : Value) (R : List (List Bool)) : Prop :=
 ∃ vs : List Value, w'.ownsRow w.1.size 48 1 v R.length vs ∧ (∀ (j : Nat) (r : List Bool), R[j]? = some r → ∃ u, vs[j]? = some u ∧ w'.ownsRow w.1.size 4 1 u r.length (bcells r)) ∧ Below w.1.size w w'
def GridPost (w : World) (R : List (List Bool)) (en : Ending) (w' : World) : Prop := ∃ v, en = .returned v ∧ Grid w w' v R
theorem Grid.base {w w0 w' : World} {v : Value} {R : List (List Bool)} (h : Grid w0 w' v R) (hb : Below w.1.size w w0) : Grid w w' v R := by
 obtain ⟨vs, h1, h2, h3⟩ := h
 exact ⟨vs, own_base h1 hb.size, fun j r hj => by obtain ⟨u, hu, ho⟩ := h2 j r hj; exact ⟨u, hu, own_base ho hb.size⟩, hb.trans (h3.mono hb.size)⟩
theorem Grid.nil (w : World) : Grid w w (.slice none 0 0) [] := ⟨[], World.ownsRow_nil w _ _ _, by simp, bR⟩
theorem Grid.below {w w1 w2 : World} {v : Value} {R : List (List Bool)} (h : Grid w w1 v R) (hb : Below w1.1.size w1 w2) : Grid w w2 v R := by
 obtain ⟨vs, h1, h2, h3⟩ := h
 exact ⟨vs, own_below h1 hb, fun j r hj => by obtain ⟨u, hu, ho⟩ := h2 j r hj; exact ⟨u, hu, own_below ho hb⟩, h3.trans (hb.mono h3.size)⟩
theorem Grid.row {w w1 : World} {v : Value} {R : List (List Bool)} (h : Grid w w1 v R) {j : Nat} {r : List Bool} (hj : R[j]? = some r) :
  ∃ b o A c n cap, v = .slice (some ⟨b, o, none⟩) n cap ∧ n = R.length ∧ w1.cell? ⟨b, o + j, none⟩ = some (.slice A r.length c) ∧ Sl w1 w1.1.size 1 A r.length c (bcells r) := by
 obtain ⟨vs, h1, h2, h3⟩ := h
 obtain ⟨u, hu, ho⟩ := h2 j r hj
 obtain ⟨A, c, rfl, hs⟩ := own_sl ho
 obtain ⟨A0, c0, rfl, hs0⟩ := own_sl h1
 obtain ⟨b, o, rfl, _, hc⟩ := hs0.rd.at_ hu
 exact ⟨b, o, A, c, _, c0, rfl, rfl, hc, hs⟩
theorem Grid.push {w w1 w2 : World} {v v' u : Value} {R : List (List Bool)} {r : List Bool} (h : Grid w w1 v R) (hu : w1.ownsRow w.1.size 4 1 u r.length (bcells r)) {vs : List Value}
  (hv : w1.ownsRow w.1.size 48 1 v R.length vs) (hown : w2.ownsRow w.1.size 48 1 v' (R.length + 1) (vs ++ [u])) (ht : Tch (fun k => v.ownBlock = some k) w1 w2)
  (hvs : ∀ (j : Nat) (r : List Bool), R[j]? = some r → ∃ u, vs[j]? = some u ∧ w1.ownsRow w.1.size 4 1 u r.length (bcells r)) : Grid w w2 v' (R ++ [r]) := by
 have hb := h.choose_spec.2.2
 have hlen : vs.length = R.length := by rw [hv.1]; simp
 have hkeep : ∀ u' (n : Nat) xs, w1.ownsRow w.1.size 4 1 u' n xs → w2.ownsRow w.1.size 4 1 u' n xs := fun u' n xs ho =>
  own_tch ho ht (fun g hg hg' => own_ne ho hv (by decide) g hg hg')
 refine ⟨vs ++ [u], by simpa using hown, fun j r' hj => ?_, hb.trans (ht.below hb.size (fun g hg h => by have := (hv.lt g h).1; omega))⟩
 by_cases hlt : j < R.length
 ·rw [gC hlt] at hj
  obtain ⟨u', hu', ho⟩ := hvs j r' hj
  exact ⟨u', by rw [gC (by omega)]; exact hu', hkeep _ _ _ ho⟩
 ·have hj' : j = R.length := by
   have := (gB.1 hj).1
   simp at this; omega
  subst hj'
  rw [gR lR] at hj
  simp at hj
  subst hj
  exact ⟨u, by rw [gR (by omega), hlen]; simp, hkeep _ _ _ hu⟩
theorem below_undrew {B : Nat} {w w' : World} (h : Below B w.drew w') : Below B w w' := ⟨h.os, h.tape, h.output, h.size, h.block⟩
end Go.Proofs.YtiebpncpdbnelaaGreatDoor
namespace Go.Proofs.YtiebpncpdbnelaaGreatDoor
abbrev Cov := Nat × Nat × List Bool × List Bool
end Go.Proofs.YtiebpncpdbnelaaGreatDoor
namespace Go.Proofs.YtiebpncpdbnelaaGreatDoor
open Go.RowKit
theorem sliceInt : SliceT Tryz.prog 22 3 1 8 :=
 SliceT.mk (z := .int .i64 0) Tryz.underlying22 (by kernel_rfl) (by decide) (by decide)
end Go.Proofs.YtiebpncpdbnelaaGreatDoor
namespace Go.Proofs.YtiebpncpdbnelaaGreatDoor
open Go.RowKit
theorem cloneInt_any (A : Option Addr) (n c : Nat) (xs : List Value) (w : World) (B : Nat) (hs : Sl w B 1 A n c xs) (h1 : ∀ u ∈ xs, u.oneCell' = true) (hB : B ≤ w.1.size) (hn : n ≤ 1000000000) :
  Calls Tryz.prog 86 #[.slice A n c] w (NewRow w 3 1 n xs (A = none)) := by
 have hnil := fun (w : World) (a : Option Addr) (l c : Nat) => Lib.run_eql_slice_nil (P := Tryz.prog) w 22 3 a l c 0 0 Tryz.underlying22
 rcases A with _ | ad
 ·have hc : c = 0 := hs.nil rfl
  have hm : n = 0 := by have := hs.cap; omega
  subst hc; subst hm
  have hx : xs = [] := List.eq_nil_of_length_eq_zero (by rw [hs.len])
  subst hx
  go_enter Tryz.func86, Tryz.ntmps86
  go_wp2
  go_ret
  exact ⟨_, rfl, World.ownsRow_nil _ _ _ _, bR, by simp⟩
 ·have hb0 : ∀ w : World, (w.alloc (.cells #[] 3)).ownsRow w.1.size 3 1 (.slice (some ⟨w.1.size, 0, none⟩) 0 0) 0 [] :=
   fun w => World.ownsRow_made w #[] 0 lR (by unfold maxLen; omega) (by simp)
  go_enter Tryz.func86, Tryz.ntmps86
  go_wp2_with (at_builtin; refine wpList_extend rfl (.tmp 5) (.tmp 6) 22 rfl w.1.size 3 1 8 sliceInt _ _ _ (hb0 w) rfl B (some ad) n c xs rfl (hs.below ((Below.refl w.1.size w).alloc lR _) hB) h1 (by omega) (by omega) (by simp) ?_; intro v1 w1 hown1 ht1 hat1 hnil1)
  go_ret
  refine ⟨v1, rfl, by simpa using hown1, ?_, by simp [hnil1]⟩
  exact ((Below.refl w.1.size w).alloc lR _).trans (ht1.below (by simp) (fun k hk => by simp [Value.ownBlock]; omega))
end Go.Proofs.YtiebpncpdbnelaaGreatDoor
namespace Go.Proofs.YtiebpncpdbnelaaGreatDoor
open Go.RowKit
theorem sliceU64 : SliceT Tryz.prog 27 34 1 8 :=
 SliceT.mk (z := .int .u64 0) Tryz.underlying27 (by kernel_rfl) (by decide) (by decide)
end Go.Proofs.YtiebpncpdbnelaaGreatDoor
namespace Go.Proofs.YtiebpncpdbnelaaGreatDoor
open Go.RowKit
theorem wpList_extendB {P : Program} {ops : Array Oper} {rest : List Oper} {o : Oper} {a : Act} {Q : Exit → Act → World → Prop} {w : World} (hgd : o.guard = none) (s x : Operand) (t : TypeId) (ho : o.op = .call { callee := .builtin .append, args := #[s, x], argTypes := #[t, t] })
  (base e size bytes : Nat) (T : SliceT P t e size bytes) (v : Value) (n : Nat) (xs : List Value) (hown : w.ownsRow base e size v n xs) (hs : a.eval s = v)
  (B : Nat) (A : Option Addr) (m c : Nat) (news : List Value) (hx : a.eval x = .slice A m c) (hr : Sl w B size A m c news) (h1 : ∀ u ∈ news, u.oneCell' = true)
  (hn : n + m ≤ 9223372036854775807) (hbb : (n + m) * bytes ≤ 140737488355328) (hbase : base ≤ w.1.size)
  (h : ∀ v' w', w'.ownsRow base e size v' (n + m) (xs ++ news) → Tch (fun k => v.ownBlock = some k) w w' → (v'.ownBlock = v.ownBlock ∨ v'.ownBlock = some w.1.size) → (v' = .slice none 0 0 ↔ v = .slice none 0 0 ∧ m = 0) → wpList P ops Q rest (a.put o.dst v') w') :
  wpList P ops Q (o :: rest) a w := by
 obtain ⟨ht, hsz, i, z, hi, hz, hs1, hb1, hz1⟩ := T
 rcases A with _ | ad
 ·have hc : c = 0 := hr.nil rfl
  have hm : m = 0 := by have := hr.cap; omega
  subst hc; subst hm
  have hnews : news = [] := List.eq_nil_of_length_eq_zero (by rw [hr.len]; simp)
  subst hnews
  exact wpList_append_own_none hgd s x t ho base e i size ht hi v n xs hs hown hx
   (h v w (by simpa using hown) (Tch.refl _ _) (.inl rfl) (by simp))
 ·have hnews : ∀ j u, news[j]? = some u → w.cell? (ad.add j) = some u := by
   intro j u hu
   obtain ⟨b, off, hA, _, hc⟩ := hr.rd.at_ hu
   cases hA
   have hadd : (⟨b, off, none⟩ : Addr).add j = ⟨b, off + j, none⟩ := by
    unfold Addr.add
    split
    ·rename_i h; subst h; rfl
    ·rfl
   rw [hadd]; exact hc
  exact wpList_append_own_at w hgd s x t ho base e i z size bytes ht hi hz hs1 hb1 hz1 hsz v n xs hs hown ad m c news hx hr.len hnews h1 (by unfold maxLen; omega) hbb hbase
   (fun v' w' h2 h3 h4 h5 => h v' w' h2 (Tch.of_grown h3) h5 h4)
theorem cloneU_any (A : Option Addr) (n c : Nat) (xs : List Value) (w : World) (B : Nat) (hs : Sl w B 1 A n c xs) (h1 : ∀ u ∈ xs, u.oneCell' = true) (hB : B ≤ w.1.size) (hn : n ≤ 17592186044416) :
  Calls Tryz.prog 87 #[.slice A n c] w (NewRow w 34 1 n xs (A = none)) := by
 have hnil := fun (w : World) (a : Option Addr) (l c : Nat) => Lib.run_eql_slice_nil (P := Tryz.prog) w 27 34 a l c 0 0 Tryz.underlying27
 rcases A with _ | ad
 ·have hc : c = 0 := hs.nil rfl
  have hm : n = 0 := by have := hs.cap; omega
  subst hc; subst hm
  have hx : xs = [] := List.eq_nil_of_length_eq_zero (by rw [hs.len])
  subst hx
  go_enter Tryz.func87, Tryz.ntmps87
  go_wp2
  go_ret
  exact ⟨_, rfl, World.ownsRow_nil _ _ _ _, bR, by simp⟩
 ·have hb0 : ∀ w : World, (w.alloc (.cells #[] 34)).ownsRow w.1.size 34 1 (.slice (some ⟨w.1.size, 0, none⟩) 0 0) 0 [] :=
   fun w => World.ownsRow_made w #[] 0 lR (by unfold maxLen; omega) (by simp)
  go_enter Tryz.func87, Tryz.ntmps87
  go_wp2_with (at_builtin; refine wpList_extendB rfl (.tmp 5) (.tmp 6) 27 rfl w.1.size 34 1 8 sliceU64 _ _ _ (hb0 w) rfl B (some ad) n c xs rfl (hs.below ((Below.refl w.1.size w).alloc lR _) hB) h1 (by omega) (by omega) (by simp) ?_; intro v1 w1 hown1 ht1 hat1 hnil1)
  go_ret
  refine ⟨v1, rfl, by simpa using hown1, ?_, by simp [hnil1]⟩
  exact ((Below.refl w.1.size w).alloc lR _).trans (ht1.below (by simp) (fun k hk => by simp [Value.ownBlock]; omega))
end Go.Proofs.YtiebpncpdbnelaaGreatDoor
namespace Go.Proofs.YtiebpncpdbnelaaGreatDoor
open Go.RowKit
theorem equalInt_any (A1 A2 : Option Addr) (n1 c1 n2 c2 : Nat) (xs ys : List Int) (w : World) (B1 B2 : Nat) (hx : Sl w B1 1 A1 n1 c1 (icells xs)) (hy : Sl w B2 1 A2 n2 c2 (icells ys))
  (hn1 : n1 = xs.length) (hn2 : n2 = ys.length) (hl : n1 ≤ 1000000000) :
  Calls Tryz.prog 34 #[.slice A1 n1 c1, .slice A2 n2 c2] w (Said w (decide (xs = ys))) := by
 by_cases hne : n1 = n2
 ·subst hne
  have HN1 := dh hn1
  have HN2 := dh hn2
  clear hn1 hn2
  have hd : ((n1 : Int) != (n1 : Int)) = false := by simp
  go_enter Tryz.func34, Tryz.ntmps34
  go_wp2
  go_loopw [13] (fun i wr => ∃ k m : Nat, k ≤ n1 ∧ i = .int .i64 k ∧ wr = w.drewN m ∧ Hid (xs.take k = ys.take k)) (fun i _ => n1 - (intOf i).toNat)
  case atStart => exact ⟨0, 0, by omega, rfl, rfl, rfl⟩
  case round =>
   obtain ⟨k, m, hk, rfl, rfl, ht⟩ := hrel
   by_cases hlt : k < n1
   ·have hkx : k < xs.length := by rw [← HN1.out]; exact hlt
    have hky : k < ys.length := by rw [← HN2.out]; exact hlt
    obtain ⟨b, o, rfl, _, hc⟩ := rd_int hx.rd hkx
    obtain ⟨b', o', rfl, _, hc'⟩ := rd_int hy.rd hky
    have hs := fun h => take_eq_snoc ht.out hkx hky h
    generalize hX : xs[k] = x at *
    generalize hY : ys[k] = y at *
    have HX := dh hX
    have HY := dh hY
    have HS := dh hs
    clear hX hY hs
    have h0 : (0 : Int) ≤ (k : Int) := by omega
    have h1 : (k : Int) < (n1 : Int) := by omega
    go_wp2_with fail
    go_quiet (fail)
    go_wp2
    ·go_ret
     refine ⟨ret_bool ?_, ?_⟩
     ·have hne : x ≠ y := by first | assumption | (rename_i h; simpa using h)
      symm; rw [decide_eq_false_iff_not]
      rintro rfl
      exact hne (HX.out.symm.trans HY.out)
     ·exact ⟨_, by rw [World.drewN_drewN]⟩
    ·have he : x = y := by first | assumption | (rename_i h; simpa using h)
     go_roundw
     case rel => exact ⟨k + 1, _, by omega, by go_num, by first | rfl | rw [World.drewN_drewN], HS.out he⟩
     case measure => simp [intOf]; omega
   ·have hkn : k = n1 := by omega
    subst hkn
    go_wp2
    go_ret
    refine ⟨ret_bool ?_, _, rfl⟩
    have := ht.out
    rw [tL (by rw [← HN1.out]; exact lR), tL (by rw [← HN2.out]; exact lR)] at this
    simp [this]
 ·have hd : ((n1 : Int) != (n2 : Int)) = true := by simp; omega
  have HD := dh hne
  have HN1 := dh hn1
  have HN2 := dh hn2
  clear hne hn1 hn2
  go_enter Tryz.func34, Tryz.ntmps34
  go_wp2
  go_ret
  refine ⟨ret_bool ?_, 0, rfl⟩
  symm; rw [decide_eq_false_iff_not]
  intro h
  exact HD.out (by rw [HN1.out, HN2.out, h])
end Go.Proofs.YtiebpncpdbnelaaGreatDoor
namespace Go.Proofs.YtiebpncpdbnelaaGreatDoor
open Go.RowKit
def natI (l : List Nat) : List Int := l.map (fun (i : Nat) => (i : Int))
theorem natI_len (l : List Nat) : (natI l).length = l.length := by simp [natI]
theorem natI_append (l r : List Nat) : natI (l ++ r) = natI l ++ natI r := by simp [natI]
theorem cloneB_any (A : Option Addr) (n c : Nat) (xs : List Value) (w : World) (B : Nat) (hs : Sl w B 1 A n c xs) (h1 : ∀ u ∈ xs, u.oneCell' = true) (hB : B ≤ w.1.size) (hn : n ≤ 1000000000) :
  Calls Tryz.prog 45 #[.slice A n c] w (NewRow w 4 1 n xs (A = none)) := by
 have hnil := fun (w : World) (a : Option Addr) (l c : Nat) => Lib.run_eql_slice_nil (P := Tryz.prog) w 48 4 a l c 0 0 Tryz.underlying48
 rcases A with _ | ad
 ·have hc : c = 0 := hs.nil rfl
  have hm : n = 0 := by have := hs.cap; omega
  subst hc; subst hm
  have hx : xs = [] := List.eq_nil_of_length_eq_zero (by rw [hs.len])
  subst hx
  go_enter Tryz.func45, Tryz.ntmps45
  go_wp2
  go_ret
  exact ⟨_, rfl, World.ownsRow_nil _ _ _ _, bR, by simp⟩
 ·have hb0 : ∀ w : World, (w.alloc (.cells #[] 4)).ownsRow w.1.size 4 1 (.slice (some ⟨w.1.size, 0, none⟩) 0 0) 0 [] :=
   fun w => World.ownsRow_made w #[] 0 lR (by unfold maxLen; omega) (by simp)
  go_enter Tryz.func45, Tryz.ntmps45
  go_wp2_with (at_builtin; refine wpList_extend rfl (.tmp 5) (.tmp 6) 48 rfl w.1.size 4 1 1 sliceBool _ _ _ (hb0 w) rfl B (some ad) n c xs rfl (hs.below ((Below.refl w.1.size w).alloc lR _) hB) h1 (by omega) (by omega) (by simp) ?_; intro v1 w1 hown1 ht1 hat1 hnil1)
  go_ret
  refine ⟨v1, rfl, by simpa using hown1, ?_, by simp [hnil1]⟩
  exact ((Below.refl w.1.size w).alloc lR _).trans (ht1.below (by simp) (fun k hk => by simp [Value.ownBlock]; omega))
end Go.Proofs.YtiebpncpdbnelaaGreatDoor
namespace Go.Proofs.YtiebpncpdbnelaaGreatDoor
open Go.RowKit
theorem heap_lt {w : World} {g : Nat} {o : Obj} (h : w.1[g]? = some o) : g < w.1.size := (aI.1 h).1
theorem box5 (w : World) (x y : Obj) : Below w.1.size w ((w.alloc x).alloc y) ∧ ((w.alloc x).alloc y).1[w.1.size]? = some x ∧ ((w.alloc x).alloc y).1[w.1.size + 1]? = some y ∧ ((w.alloc x).alloc y).1.size = w.1.size + 2 := by
 refine ⟨(bR.alloc lR _).alloc (by simp) _, ?_, ?_, by simp⟩
 ·rw [Below.heap_alloc _ _ _ (by simp)]; exact heap_alloc_new w x
 ·have := heap_alloc_new (w.alloc x) y
  rwa [show (w.alloc x).1.size = w.1.size + 1 by simp] at this
end Go.Proofs.YtiebpncpdbnelaaGreatDoor
