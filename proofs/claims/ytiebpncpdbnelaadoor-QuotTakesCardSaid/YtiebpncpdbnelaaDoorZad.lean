/- Texts that stand one behind the other, in one file. -/
import Derived.Test.YtiebpncpdbnelaaDoorZac
import Derived.Test.YtiebpncpdbnelaaDoorProg
import Derived.OwnWalk
import Derived.Outline
set_option maxHeartbeats 1000000
namespace Go.Proofs.YtiebpncpdbnelaaDoor
structure ANd where
 need : Nat
 ban : Nat
 inn : Nat
 to : List Int
def ANd.none : ANd := ⟨0, 0, 0, []⟩
structure Aut where
 sets : Int
 init : List Int
 nodes : List ANd
def rdsB (x : ANd) (S : Nat) : Bool := decide (x.need &&& S = x.need) && decide (x.ban &&& S = 0)
def Aut.Ok (a : Aut) : Prop := (∀ i ∈ a.init, isNd a.nodes.length i = true) ∧ ∀ x ∈ a.nodes, ∀ t ∈ x.to, isNd a.nodes.length t = true
def Aut.at (a : Aut) (q : Nat) : ANd := a.nodes.getD q ANd.none
def prodR (a : Aut) (W : List Nat) (lp q k : Nat) : List Nd :=
 if rdsB (a.at q) (W.getD k 0) = true then ((a.at q).to.filter (fun t => rdsB (a.at t.toNat) (W.getD (nx lp W.length k) 0))).map (fun t => ⟨t * (W.length : Int) + ((nx lp W.length k : Nat) : Int), 0⟩) else []
def prodE (a : Aut) (W : List Nat) (lp : Nat) : List (List Nd) := (List.range (a.nodes.length * W.length)).map (fun m => prodR a W lp (m / W.length) (m % W.length))
def asksA (a : Aut) (n : Nat) : List (Nat → Bool) := (fun _ => true) :: (List.range a.sets.toNat).map (fun i m => (a.at (m / n)).inn.testBit i)
def takesZ (a : Aut) (W : List Nat) (z : List Bool) : Prop := ∃ q : Nat, (q : Int) ∈ a.init ∧ rdsB (a.at q) (W.getD 0 0) = true ∧ z.getD (q * W.length) false = true
section
variable {a : Aut} {W : List Nat} {lp : Nat}
theorem prodE_len (a : Aut) (W : List Nat) (lp : Nat) : (prodE a W lp).length = a.nodes.length * W.length := by simp [prodE]
theorem idx_lt {q k N n : Nat} (hq : q < N) (hk : k < n) : q * n + k < N * n := by
 have : (q + 1) * n ≤ N * n := Nat.mul_le_mul_right _ hq
 rw [Nat.succ_mul] at this; omega
theorem idx_div {q k n : Nat} (hk : k < n) : (q * n + k) / n = q ∧ (q * n + k) % n = k := by
 constructor
 ·rw [Nat.mul_comm, Nat.mul_add_div (by omega), Nat.div_eq_of_lt hk, Nat.add_zero]
 ·rw [Nat.mul_comm, Nat.mul_add_mod, Nat.mod_eq_of_lt hk]
theorem prodE_at {q k : Nat} (hq : q < a.nodes.length) (hk : k < W.length) : (prodE a W lp).getD (q * W.length + k) [] = prodR a W lp q k := by
 have h := idx_lt hq hk
 obtain ⟨h1, h2⟩ := idx_div (q := q) hk
 simp [prodE, List.getD, h, h1, h2]
theorem ed_prod (hA : a.Ok) (hlp : lp < W.length) {z : List Bool} {q k j : Nat} (hq : q < a.nodes.length) (hk : k < W.length) (hz : z.length = a.nodes.length * W.length) :
  Ed (prodE a W lp) z (q * W.length + k) j ↔ ∃ q' : Nat, q' < a.nodes.length ∧ j = q' * W.length + nx lp W.length k ∧ z.getD (q * W.length + k) false = true ∧ z.getD j false = true ∧ (q' : Int) ∈ (a.at q).to ∧
   rdsB (a.at q) (W.getD k 0) = true ∧ rdsB (a.at q') (W.getD (nx lp W.length k) 0) = true := by
 have hix := idx_lt hq hk
 have hnx : nx lp W.length k < W.length := nx_lt hlp
 unfold Ed
 rw [prodE_len, prodE_at hq hk, hz]
 constructor
 ·rintro ⟨_, _, h3, h4, h5⟩
  unfold prodR at h5
  split at h5
  ·next hr =>
   simp only [tgts, List.mem_map] at h5
   obtain ⟨e, ⟨t, ht, rfl⟩, hj⟩ := h5
   obtain ⟨ht1, ht2⟩ := List.mem_filter.1 ht
   have hn : a.at q ∈ a.nodes := by
    unfold Aut.at; rw [gD, gE hq]; exact mM hq
   obtain ⟨q', rfl, hq'⟩ := isNd_nat (hA.2 _ hn t ht1)
   dsimp only at hj
   rw [tN] at ht2
   refine ⟨q', hq', ?_, h3, h4, ht1, hr, ht2⟩
   have : ((q' * W.length + nx lp W.length k : Nat) : Int) = (j : Int) := by rw [← hj]; simp
   omega
  ·simp [tgts] at h5
 ·rintro ⟨q', hq', rfl, h3, h4, h5, h6, h7⟩
  refine ⟨hix, idx_lt hq' hnx, h3, h4, ?_⟩
  unfold prodR
  rw [if_pos h6]
  simp only [tgts, List.mem_map]
  refine ⟨⟨(q' : Int) * (W.length : Int) + ((nx lp W.length k : Nat) : Int), 0⟩, ⟨(q' : Int), List.mem_filter.2 ⟨h5, by rw [tN]; exact h7⟩, rfl⟩, by simp⟩
end
end Go.Proofs.YtiebpncpdbnelaaDoor
namespace Go.Proofs.YtiebpncpdbnelaaDoor
def chkNd (N : Nat) (s : Int) (x : ANd) : Int := if x.to.all (isNd N) = true then (if x.inn >>> s.toNat = 0 then 0 else 3) else 10
def chkNds (N : Nat) (s : Int) : List ANd → Int
 | [] => 0
 | x :: r => if chkNd N s x = 0 then chkNds N s r else chkNd N s x
def chkA (a : Aut) : Int := if 256 < a.nodes.length ∨ 16 < a.sets then 11 else if a.sets < 0 then 10 else if a.init.all (isNd a.nodes.length) = true then chkNds a.nodes.length a.sets a.nodes else 10
theorem chkNds_ok {N : Nat} {s : Int} : ∀ {l : List ANd}, (∀ x ∈ l, chkNd N s x = 0) → chkNds N s l = 0
 | [], _ => rfl
 | x :: r, h => by
  unfold chkNds
  rw [if_pos (h x (by simp))]
  exact chkNds_ok (fun y hy => h y (by simp [hy]))
theorem chkNds_at {N : Nat} {s : Int} : ∀ {l : List ANd} {i : Nat} (hi : i < l.length), (∀ x ∈ l.take i, chkNd N s x = 0) → chkNd N s l[i] ≠ 0 → chkNds N s l = chkNd N s l[i]
 | x :: r, 0, _, _, hx => by
  unfold chkNds
  rw [if_neg (by simpa using hx)]; rfl
 | x :: r, i + 1, hi, h, hx => by
  unfold chkNds
  rw [if_pos (h x (by simp))]
  simp only [List.getElem_cons_succ] at hx ⊢
  exact chkNds_at (by simpa using hi) (fun y hy => h y (by simp [hy])) hx
theorem chkA_zero {a : Aut} (h1 : a.nodes.length ≤ 256) (h2 : 0 ≤ a.sets ∧ a.sets ≤ 16) (h3 : a.Ok) (h4 : ∀ x ∈ a.nodes, x.inn < 2 ^ a.sets.toNat) : chkA a = 0 := by
 unfold chkA
 rw [if_neg (by omega), if_neg (by omega), if_pos (List.all_eq_true.2 (fun i hi => h3.1 i hi))]
 refine chkNds_ok (fun x hx => ?_)
 unfold chkNd
 rw [if_pos (List.all_eq_true.2 (fun t ht => h3.2 x hx t ht)), if_pos (by rw [Nat.shiftRight_eq_div_pow]; exact Nat.div_eq_of_lt (h4 x hx))]
theorem all_takeS {α : Type} {l : List α} {P : α → Prop} {i : Nat} (hi : i < l.length) (h : ∀ x ∈ l.take i, P x) (hx : P l[i]) : ∀ x ∈ l.take (i + 1), P x := by
 intro x hm
 rw [take_snoc l i hi] at hm
 rcases List.mem_append.1 hm with hm | hm
 ·exact h x hm
 ·rw [mS] at hm; subst hm; exact hx
end Go.Proofs.YtiebpncpdbnelaaDoor
namespace Go.Proofs.YtiebpncpdbnelaaDoor
def plc (lp L : Nat) : Nat → Nat
 | 0 => 0
 | k + 1 => nx lp L (plc lp L k)
theorem plc_lt {lp L : Nat} (hlp : lp < L) : ∀ k, plc lp L k < L
 | 0 => Nat.lt_of_le_of_lt (Nat.zero_le _) hlp
 | _k + 1 => nx_lt hlp
structure RunOf (a : Aut) (W : List Nat) (lp : Nat) (r : Nat → Nat) : Prop where
 lt : ∀ k, r k < a.nodes.length
 rds : ∀ k, rdsB (a.at (r k)) (W.getD (plc lp W.length k) 0) = true
 to : ∀ k, ((r (k + 1) : Nat) : Int) ∈ (a.at (r k)).to
 met : ∀ i, i < a.sets.toNat → ∀ k, ∃ m, k ≤ m ∧ (a.at (r m)).inn.testBit i = true
def Acc (a : Aut) (W : List Nat) (lp : Nat) : Prop := ∃ r, (((r 0 : Nat) : Int) ∈ a.init) ∧ RunOf a W lp r
def asksD (a : Aut) (dq : Nat → Nat) : List (Nat → Bool) := (fun _ => true) :: (List.range a.sets.toNat).map (fun i m => (a.at (dq m)).inn.testBit i)
theorem asksD_iff {a : Aut} {dq : Nat → Nat} {P : (Nat → Bool) → Prop} : (∀ p ∈ asksD a dq, P p) ↔ P (fun _ => true) ∧ ∀ i, i < a.sets.toNat → P (fun m => (a.at (dq m)).inn.testBit i) := by
 constructor
 ·intro h
  exact ⟨h _ (List.mem_cons_self ..), fun i hi => h _ (List.mem_cons_of_mem _ (List.mem_map.2 ⟨i, List.mem_range.2 hi, rfl⟩))⟩
 ·rintro ⟨h1, h2⟩ p hp
  rcases List.mem_cons.1 hp with rfl | hp
  ·exact h1
  ·obtain ⟨i, hi, rfl⟩ := List.mem_map.1 hp
   exact h2 i (List.mem_range.1 hi)
section
variable {a : Aut} {W : List Nat} {lp : Nat} {E : List (List Nd)} {ix : Nat → Nat → Nat} {dq : Nat → Nat}
theorem runs_prod (hlp : lp < W.length) (hdq : ∀ q k, q < a.nodes.length → k < W.length → dq (ix q k) = q)
  (harc : ∀ q k j, q < a.nodes.length → k < W.length → (Arc E (ix q k) j ↔ ∃ q' : Nat, q' < a.nodes.length ∧ j = ix q' (nx lp W.length k) ∧ (q' : Int) ∈ (a.at q).to ∧ rdsB (a.at q) (W.getD k 0) = true ∧ rdsB (a.at q') (W.getD (nx lp W.length k) 0) = true))
  {q : Nat} (hq : q < a.nodes.length) : Runs E (asksD a dq) (ix q 0) ↔ ∃ r, r 0 = q ∧ RunOf a W lp r := by
 constructor
 ·rintro ⟨π, h0, h1, h2⟩
  rw [asksD_iff] at h2
  have key : ∀ k, dq (π k) < a.nodes.length ∧ π k = ix (dq (π k)) (plc lp W.length k) := by
   intro k
   induction k with
   | zero =>
    have h3 := hdq q 0 hq (by omega)
    rw [h0, h3]
    exact ⟨hq, rfl⟩
   | succ k ih =>
    have hs := h1 k
    rw [ih.2, harc _ _ _ ih.1 (plc_lt hlp k)] at hs
    obtain ⟨q', hq', hj, _⟩ := hs
    have h3 := hdq q' _ hq' (nx_lt hlp (i := plc lp W.length k))
    rw [hj, h3]
    exact ⟨hq', rfl⟩
  have hst : ∀ k, ((dq (π (k + 1)) : Nat) : Int) ∈ (a.at (dq (π k))).to ∧ rdsB (a.at (dq (π k))) (W.getD (plc lp W.length k) 0) = true := by
   intro k
   have hs := h1 k
   obtain ⟨a1, a2⟩ := key k
   rw [a2, harc _ _ _ a1 (plc_lt hlp k)] at hs
   obtain ⟨q', hq', hj, c1, c2, _⟩ := hs
   have h3 := hdq q' _ hq' (nx_lt hlp (i := plc lp W.length k))
   rw [hj, h3]
   exact ⟨c1, c2⟩
  refine ⟨fun k => dq (π k), by dsimp only; rw [h0, hdq q 0 hq (by omega)], fun k => (key k).1, fun k => (hst k).2, fun k => (hst k).1, fun i hi k => ?_⟩
  obtain ⟨m, c1, c2⟩ := h2.2 i hi k
  exact ⟨m, c1, c2⟩
 ·rintro ⟨r, rfl, h⟩
  refine ⟨fun k => ix (r k) (plc lp W.length k), rfl, fun k => ?_, ?_⟩
  ·rw [harc _ _ _ (h.lt k) (plc_lt hlp k)]
   exact ⟨r (k + 1), h.lt (k + 1), rfl, h.to k, h.rds k, h.rds (k + 1)⟩
  ·rw [asksD_iff]
   refine ⟨fun k => ⟨k, lR, rfl⟩, fun i hi k => ?_⟩
   obtain ⟨m, c1, c2⟩ := h.met i hi k
   exact ⟨m, c1, by dsimp only; rw [hdq _ _ (h.lt m) (plc_lt hlp m)]; exact c2⟩
theorem arc_all {E : List (List Nd)} {i j : Nat} : Arc E i j ↔ Ed E (List.replicate E.length true) i j := by
 have hr : ∀ k, k < E.length → (List.replicate E.length true).getD k false = true := fun k hk => by simp [List.getD, hk]
 constructor
 ·rintro ⟨h1, h2, h3⟩
  exact ⟨h1, by simpa using h2, hr i h1, hr j h2, h3⟩
 ·rintro ⟨h1, h2, _, _, h3⟩
  exact ⟨h1, by simpa using h2, h3⟩
theorem arc_prod (hA : a.Ok) (hlp : lp < W.length) {q k j : Nat} (hq : q < a.nodes.length) (hk : k < W.length) :
  Arc (prodE a W lp) (q * W.length + k) j ↔ ∃ q' : Nat, q' < a.nodes.length ∧ j = q' * W.length + nx lp W.length k ∧ (q' : Int) ∈ (a.at q).to ∧ rdsB (a.at q) (W.getD k 0) = true ∧ rdsB (a.at q') (W.getD (nx lp W.length k) 0) = true := by
 have hr : ∀ m, m < a.nodes.length * W.length → (List.replicate (prodE a W lp).length true).getD m false = true := fun m hm => by rw [prodE_len]; simp [List.getD, hm]
 rw [arc_all, ed_prod hA hlp hq hk (by rw [List.length_replicate, prodE_len])]
 constructor
 ·rintro ⟨q', h1, h2, _, _, h5, h6, h7⟩
  exact ⟨q', h1, h2, h5, h6, h7⟩
 ·rintro ⟨q', h1, h2, h5, h6, h7⟩
  exact ⟨q', h1, h2, hr _ (idx_lt hq hk), by rw [h2]; exact hr _ (idx_lt h1 (nx_lt hlp)), h5, h6, h7⟩
theorem takes_acc (hA : a.Ok) (hlp : lp < W.length) {z : List Bool} (hz : Gfp (prodE a W lp) (asksA a W.length) z) : takesZ a W z ↔ Acc a W lp := by
 have hruns : ∀ q, q < a.nodes.length → (z.getD (q * W.length) false = true ↔ ∃ r, r 0 = q ∧ RunOf a W lp r) := by
  intro q hq
  rw [gfp_runs hz (by simp [asksA])]
  exact runs_prod (ix := fun q k => q * W.length + k) (dq := fun m => m / W.length) hlp (fun q k _ hk => (idx_div hk).1) (fun q k j hq hk => arc_prod hA hlp hq hk) hq
 unfold takesZ Acc
 constructor
 ·rintro ⟨q, h1, h2, h3⟩
  obtain ⟨q', e, hq'⟩ := isNd_nat (hA.1 _ h1)
  have : q = q' := by omega
  subst this
  obtain ⟨r, rfl, hr⟩ := (hruns q hq').1 h3
  exact ⟨r, h1, hr⟩
 ·rintro ⟨r, h1, hr⟩
  exact ⟨r 0, h1, hr.rds 0, (hruns (r 0) (hr.lt 0)).2 ⟨r, rfl, hr⟩⟩
noncomputable def accB (a : Aut) (W : List Nat) (lp : Nat) : Bool := @decide (Acc a W lp) (Classical.propDecidable _)
theorem accB_iff : accB a W lp = true ↔ Acc a W lp := @decide_eq_true_iff _ (Classical.propDecidable _)
end
end Go.Proofs.YtiebpncpdbnelaaDoor
namespace Go.Proofs.YtiebpncpdbnelaaDoor
open Go.RowKit
def bcells (l : List Bool) : List Value := l.map .bool
theorem bcells_len (l : List Bool) : (bcells l).length = l.length := by simp [bcells]
theorem bcells_one (l : List Bool) : ∀ u ∈ bcells l, u.oneCell' = true := by
 intro u hu
 obtain ⟨b, _, rfl⟩ := List.mem_map.1 hu
 rfl
theorem sliceBool : SliceT Tryd.prog 54 4 1 1 :=
 SliceT.mk (z := .bool false) Tryd.underlying54 (by kernel_rfl) (by decide) (by decide)
theorem infoBool : (Tryd.prog.info? 4).map (fun i => (i.zero, i.size, i.bytes)) = some (some (.bool false), 1, 1) := by kernel_rfl
def ucells (l : List Int) : List Value := l.map (.int .u64)
theorem ucells_at {l : List Int} {i : Nat} (h : i < l.length) : (ucells l)[i]? = some (.int .u64 (l.getD i 0)) := by simp [ucells, List.getD, h]
theorem sliceRows : SliceT Tryd.prog 48 54 1 24 :=
 SliceT.mk (z := .slice none 0 0) Tryd.underlying48 (by kernel_rfl) (by decide) (by decide)
def Grid (w w' : World) (v : Value) (R : List (List Bool)) : Prop :=
 ∃ vs : List Value, w'.ownsRow w.1.size 54 1 v R.length vs ∧ (∀ (j : Nat) (r : List Bool), R[j]? = some r → ∃ u, vs[j]? = some u ∧ w'.ownsRow w.1.size 4 1 u r.length (bcells r)) ∧ Below w.1.size w w'
def GridPost (w : World) (R : List (List Bool)) (en : Ending) (w' : World) : Prop := ∃ v, en = .returned v ∧ Grid w w' v R
theorem Grid.base {w w0 w' : World} {v : Value} {R : List (List Bool)} (h : Grid w0 w' v R) (hb : Below w.1.size w w0) : Grid w w' v R := by
 obtain ⟨vs, h1, h2, h3⟩ := h
 exact ⟨vs, own_base h1 hb.size, fun j r hj => by obtain ⟨u, hu, ho⟩ := h2 j r hj; exact ⟨u, hu, own_base ho hb.size⟩, hb.trans (h3.mono hb.size)⟩
theorem Grid.nil (w : World) : Grid w w (.slice none 0 0) [] := ⟨[], World.ownsRow_nil w _ _ _, by simp, bR⟩
theorem Grid.below {w w1 w2 : World} {v : Value} {R : List (List Bool)} (h : Grid w w1 v R) (hb : Below w1.1.size w1 w2) : Grid w w2 v R := by
 obtain ⟨vs, h1, h2, h3⟩ := h
 exact ⟨vs, own_below h1 hb, fun j r hj => by obtain ⟨u, hu, ho⟩ := h2 j r hj; exact ⟨u, hu, own_below ho hb⟩, h3.trans (hb.mono h3.size)⟩
theorem Grid.push {w w1 w2 : World} {v v' u : Value} {R : List (List Bool)} {r : List Bool} (h : Grid w w1 v R) (hu : w1.ownsRow w.1.size 4 1 u r.length (bcells r)) {vs : List Value}
  (hv : w1.ownsRow w.1.size 54 1 v R.length vs) (hown : w2.ownsRow w.1.size 54 1 v' (R.length + 1) (vs ++ [u])) (ht : Tch (fun k => v.ownBlock = some k) w1 w2)
  (hvs : ∀ (j : Nat) (r : List Bool), R[j]? = some r → ∃ u, vs[j]? = some u ∧ w1.ownsRow w.1.size 4 1 u r.length (bcells r)) : Grid w w2 v' (R ++ [r]) := by
 have hb := h.choose_spec.2.2
 have hlen : vs.length = R.length := by rw [hv.1]; simp
 have hkeep : ∀ u' (n : Nat) xs, w1.ownsRow w.1.size 4 1 u' n xs → w2.ownsRow w.1.size 4 1 u' n xs := fun u' n xs ho =>
  own_tch ho ht (fun g hg hg' => own_ne ho hv (by decide) g hg hg')
 refine ⟨vs ++ [u], by simpa using hown, fun j r' hj => ?_, hb.trans (ht.below hb.size (fun g hg h => by have := (hv.lt g h).1; omega))⟩
 by_cases hlt : j < R.length
 ·rw [gC hlt] at hj
  obtain ⟨u', hu', ho⟩ := hvs j r' hj
  exact ⟨u', by rw [gC (by omega)]; exact hu', hkeep _ _ _ ho⟩
 ·have hj' : j = R.length := by
   have := (gB.1 hj).1
   simp at this; omega
  subst hj'
  rw [gR lR] at hj
  simp at hj
  subst hj
  exact ⟨u, by rw [gR (by omega), hlen]; simp, hkeep _ _ _ hu⟩
theorem below_undrew {B : Nat} {w w' : World} (h : Below B w.drew w') : Below B w w' := ⟨h.os, h.tape, h.output, h.size, h.block⟩
end Go.Proofs.YtiebpncpdbnelaaDoor
namespace Go.Proofs.YtiebpncpdbnelaaDoor
abbrev Cov := Nat × Nat × List Bool × List Bool
end Go.Proofs.YtiebpncpdbnelaaDoor
namespace Go.Proofs.YtiebpncpdbnelaaDoor
open Go.RowKit
theorem sliceInt : SliceT Tryd.prog 22 3 1 8 :=
 SliceT.mk (z := .int .i64 0) Tryd.underlying22 (by kernel_rfl) (by decide) (by decide)
end Go.Proofs.YtiebpncpdbnelaaDoor
namespace Go.Proofs.YtiebpncpdbnelaaDoor
open Go.RowKit
theorem cloneInt_any (A : Option Addr) (n c : Nat) (xs : List Value) (w : World) (B : Nat) (hs : Sl w B 1 A n c xs) (h1 : ∀ u ∈ xs, u.oneCell' = true) (hB : B ≤ w.1.size) (hn : n ≤ 1000000000) :
  Calls Tryd.prog 119 #[.slice A n c] w (NewRow w 3 1 n xs (A = none)) := by
 have hnil := fun (w : World) (a : Option Addr) (l c : Nat) => Lib.run_eql_slice_nil (P := Tryd.prog) w 22 3 a l c 0 0 Tryd.underlying22
 rcases A with _ | ad
 ·have hc : c = 0 := hs.nil rfl
  have hm : n = 0 := by have := hs.cap; omega
  subst hc; subst hm
  have hx : xs = [] := List.eq_nil_of_length_eq_zero (by rw [hs.len])
  subst hx
  go_enter Tryd.func119, Tryd.ntmps119
  go_wp2
  go_ret
  exact ⟨_, rfl, World.ownsRow_nil _ _ _ _, bR, by simp⟩
 ·have hb0 : ∀ w : World, (w.alloc (.cells #[] 3)).ownsRow w.1.size 3 1 (.slice (some ⟨w.1.size, 0, none⟩) 0 0) 0 [] :=
   fun w => World.ownsRow_made w #[] 0 lR (by unfold maxLen; omega) (by simp)
  go_enter Tryd.func119, Tryd.ntmps119
  go_wp2_with (at_builtin; refine wpList_extend rfl (.tmp 5) (.tmp 6) 22 rfl w.1.size 3 1 8 sliceInt _ _ _ (hb0 w) rfl B (some ad) n c xs rfl (hs.below ((Below.refl w.1.size w).alloc lR _) hB) h1 (by omega) (by omega) (by simp) ?_; intro v1 w1 hown1 ht1 hat1 hnil1)
  go_ret
  refine ⟨v1, rfl, by simpa using hown1, ?_, by simp [hnil1]⟩
  exact ((Below.refl w.1.size w).alloc lR _).trans (ht1.below (by simp) (fun k hk => by simp [Value.ownBlock]; omega))
end Go.Proofs.YtiebpncpdbnelaaDoor
namespace Go.Proofs.YtiebpncpdbnelaaDoor
open Go.RowKit
theorem sliceU64 : SliceT Tryd.prog 27 41 1 8 :=
 SliceT.mk (z := .int .u64 0) Tryd.underlying27 (by kernel_rfl) (by decide) (by decide)
end Go.Proofs.YtiebpncpdbnelaaDoor
namespace Go.Proofs.YtiebpncpdbnelaaDoor
open Go.RowKit
theorem wpList_extendB {P : Program} {ops : Array Oper} {rest : List Oper} {o : Oper} {a : Act} {Q : Exit → Act → World → Prop} {w : World} (hgd : o.guard = none) (s x : Operand) (t : TypeId) (ho : o.op = .call { callee := .builtin .append, args := #[s, x], argTypes := #[t, t] })
  (base e size bytes : Nat) (T : SliceT P t e size bytes) (v : Value) (n : Nat) (xs : List Value) (hown : w.ownsRow base e size v n xs) (hs : a.eval s = v)
  (B : Nat) (A : Option Addr) (m c : Nat) (news : List Value) (hx : a.eval x = .slice A m c) (hr : Sl w B size A m c news) (h1 : ∀ u ∈ news, u.oneCell' = true)
  (hn : n + m ≤ 9223372036854775807) (hbb : (n + m) * bytes ≤ 140737488355328) (hbase : base ≤ w.1.size)
  (h : ∀ v' w', w'.ownsRow base e size v' (n + m) (xs ++ news) → Tch (fun k => v.ownBlock = some k) w w' → (v'.ownBlock = v.ownBlock ∨ v'.ownBlock = some w.1.size) → (v' = .slice none 0 0 ↔ v = .slice none 0 0 ∧ m = 0) → wpList P ops Q rest (a.put o.dst v') w') :
  wpList P ops Q (o :: rest) a w := by
 obtain ⟨ht, hsz, i, z, hi, hz, hs1, hb1, hz1⟩ := T
 rcases A with _ | ad
 ·have hc : c = 0 := hr.nil rfl
  have hm : m = 0 := by have := hr.cap; omega
  subst hc; subst hm
  have hnews : news = [] := List.eq_nil_of_length_eq_zero (by rw [hr.len]; simp)
  subst hnews
  exact wpList_append_own_none hgd s x t ho base e i size ht hi v n xs hs hown hx
   (h v w (by simpa using hown) (Tch.refl _ _) (.inl rfl) (by simp))
 ·have hnews : ∀ j u, news[j]? = some u → w.cell? (ad.add j) = some u := by
   intro j u hu
   obtain ⟨b, off, hA, _, hc⟩ := hr.rd.at_ hu
   cases hA
   have hadd : (⟨b, off, none⟩ : Addr).add j = ⟨b, off + j, none⟩ := by
    unfold Addr.add
    split
    ·rename_i h; subst h; rfl
    ·rfl
   rw [hadd]; exact hc
  exact wpList_append_own_at w hgd s x t ho base e i z size bytes ht hi hz hs1 hb1 hz1 hsz v n xs hs hown ad m c news hx hr.len hnews h1 (by unfold maxLen; omega) hbb hbase
   (fun v' w' h2 h3 h4 h5 => h v' w' h2 (Tch.of_grown h3) h5 h4)
theorem cloneU_any (A : Option Addr) (n c : Nat) (xs : List Value) (w : World) (B : Nat) (hs : Sl w B 1 A n c xs) (h1 : ∀ u ∈ xs, u.oneCell' = true) (hB : B ≤ w.1.size) (hn : n ≤ 17592186044416) :
  Calls Tryd.prog 124 #[.slice A n c] w (NewRow w 41 1 n xs (A = none)) := by
 have hnil := fun (w : World) (a : Option Addr) (l c : Nat) => Lib.run_eql_slice_nil (P := Tryd.prog) w 27 41 a l c 0 0 Tryd.underlying27
 rcases A with _ | ad
 ·have hc : c = 0 := hs.nil rfl
  have hm : n = 0 := by have := hs.cap; omega
  subst hc; subst hm
  have hx : xs = [] := List.eq_nil_of_length_eq_zero (by rw [hs.len])
  subst hx
  go_enter Tryd.func124, Tryd.ntmps124
  go_wp2
  go_ret
  exact ⟨_, rfl, World.ownsRow_nil _ _ _ _, bR, by simp⟩
 ·have hb0 : ∀ w : World, (w.alloc (.cells #[] 41)).ownsRow w.1.size 41 1 (.slice (some ⟨w.1.size, 0, none⟩) 0 0) 0 [] :=
   fun w => World.ownsRow_made w #[] 0 lR (by unfold maxLen; omega) (by simp)
  go_enter Tryd.func124, Tryd.ntmps124
  go_wp2_with (at_builtin; refine wpList_extendB rfl (.tmp 5) (.tmp 6) 27 rfl w.1.size 41 1 8 sliceU64 _ _ _ (hb0 w) rfl B (some ad) n c xs rfl (hs.below ((Below.refl w.1.size w).alloc lR _) hB) h1 (by omega) (by omega) (by simp) ?_; intro v1 w1 hown1 ht1 hat1 hnil1)
  go_ret
  refine ⟨v1, rfl, by simpa using hown1, ?_, by simp [hnil1]⟩
  exact ((Below.refl w.1.size w).alloc lR _).trans (ht1.below (by simp) (fun k hk => by simp [Value.ownBlock]; omega))
end Go.Proofs.YtiebpncpdbnelaaDoor
namespace Go.Proofs.YtiebpncpdbnelaaDoor
open Go.RowKit
theorem equalInt_any (A1 A2 : Option Addr) (n1 c1 n2 c2 : Nat) (xs ys : List Int) (w : World) (B1 B2 : Nat) (hx : Sl w B1 1 A1 n1 c1 (icells xs)) (hy : Sl w B2 1 A2 n2 c2 (icells ys))
  (hn1 : n1 = xs.length) (hn2 : n2 = ys.length) (hl : n1 ≤ 1000000000) :
  Calls Tryd.prog 51 #[.slice A1 n1 c1, .slice A2 n2 c2] w (Said w (decide (xs = ys))) := by
 by_cases hne : n1 = n2
 ·subst hne
  have HN1 := dh hn1
  have HN2 := dh hn2
  clear hn1 hn2
  have hd : ((n1 : Int) != (n1 : Int)) = false := by simp
  go_enter Tryd.func51, Tryd.ntmps51
  go_wp2
  go_loopw [13] (fun i wr => ∃ k m : Nat, k ≤ n1 ∧ i = .int .i64 k ∧ wr = w.drewN m ∧ Hid (xs.take k = ys.take k)) (fun i _ => n1 - (intOf i).toNat)
  case atStart => exact ⟨0, 0, by omega, rfl, rfl, rfl⟩
  case round =>
   obtain ⟨k, m, hk, rfl, rfl, ht⟩ := hrel
   by_cases hlt : k < n1
   ·have hkx : k < xs.length := by rw [← HN1.out]; exact hlt
    have hky : k < ys.length := by rw [← HN2.out]; exact hlt
    obtain ⟨b, o, rfl, _, hc⟩ := rd_int hx.rd hkx
    obtain ⟨b', o', rfl, _, hc'⟩ := rd_int hy.rd hky
    have hs := fun h => take_eq_snoc ht.out hkx hky h
    generalize hX : xs[k] = x at *
    generalize hY : ys[k] = y at *
    have HX := dh hX
    have HY := dh hY
    have HS := dh hs
    clear hX hY hs
    have h0 : (0 : Int) ≤ (k : Int) := by omega
    have h1 : (k : Int) < (n1 : Int) := by omega
    go_wp2_with fail
    go_quiet (fail)
    go_wp2
    ·go_ret
     refine ⟨ret_bool ?_, ?_⟩
     ·have hne : x ≠ y := by first | assumption | (rename_i h; simpa using h)
      symm; rw [decide_eq_false_iff_not]
      rintro rfl
      exact hne (HX.out.symm.trans HY.out)
     ·exact ⟨_, by rw [World.drewN_drewN]⟩
    ·have he : x = y := by first | assumption | (rename_i h; simpa using h)
     go_roundw
     case rel => exact ⟨k + 1, _, by omega, by go_num, by first | rfl | rw [World.drewN_drewN], HS.out he⟩
     case measure => simp [intOf]; omega
   ·have hkn : k = n1 := by omega
    subst hkn
    go_wp2
    go_ret
    refine ⟨ret_bool ?_, _, rfl⟩
    have := ht.out
    rw [tL (by rw [← HN1.out]; exact lR), tL (by rw [← HN2.out]; exact lR)] at this
    simp [this]
 ·have hd : ((n1 : Int) != (n2 : Int)) = true := by simp; omega
  have HD := dh hne
  have HN1 := dh hn1
  have HN2 := dh hn2
  clear hne hn1 hn2
  go_enter Tryd.func51, Tryd.ntmps51
  go_wp2
  go_ret
  refine ⟨ret_bool ?_, 0, rfl⟩
  symm; rw [decide_eq_false_iff_not]
  intro h
  exact HD.out (by rw [HN1.out, HN2.out, h])
end Go.Proofs.YtiebpncpdbnelaaDoor
namespace Go.Proofs.YtiebpncpdbnelaaDoor
open Go.RowKit
def natI (l : List Nat) : List Int := l.map (fun (i : Nat) => (i : Int))
theorem natI_len (l : List Nat) : (natI l).length = l.length := by simp [natI]
theorem natI_append (l r : List Nat) : natI (l ++ r) = natI l ++ natI r := by simp [natI]
theorem cloneB_any (A : Option Addr) (n c : Nat) (xs : List Value) (w : World) (B : Nat) (hs : Sl w B 1 A n c xs) (h1 : ∀ u ∈ xs, u.oneCell' = true) (hB : B ≤ w.1.size) (hn : n ≤ 1000000000) :
  Calls Tryd.prog 72 #[.slice A n c] w (NewRow w 4 1 n xs (A = none)) := by
 have hnil := fun (w : World) (a : Option Addr) (l c : Nat) => Lib.run_eql_slice_nil (P := Tryd.prog) w 54 4 a l c 0 0 Tryd.underlying54
 rcases A with _ | ad
 ·have hc : c = 0 := hs.nil rfl
  have hm : n = 0 := by have := hs.cap; omega
  subst hc; subst hm
  have hx : xs = [] := List.eq_nil_of_length_eq_zero (by rw [hs.len])
  subst hx
  go_enter Tryd.func72, Tryd.ntmps72
  go_wp2
  go_ret
  exact ⟨_, rfl, World.ownsRow_nil _ _ _ _, bR, by simp⟩
 ·have hb0 : ∀ w : World, (w.alloc (.cells #[] 4)).ownsRow w.1.size 4 1 (.slice (some ⟨w.1.size, 0, none⟩) 0 0) 0 [] :=
   fun w => World.ownsRow_made w #[] 0 lR (by unfold maxLen; omega) (by simp)
  go_enter Tryd.func72, Tryd.ntmps72
  go_wp2_with (at_builtin; refine wpList_extend rfl (.tmp 5) (.tmp 6) 54 rfl w.1.size 4 1 1 sliceBool _ _ _ (hb0 w) rfl B (some ad) n c xs rfl (hs.below ((Below.refl w.1.size w).alloc lR _) hB) h1 (by omega) (by omega) (by simp) ?_; intro v1 w1 hown1 ht1 hat1 hnil1)
  go_ret
  refine ⟨v1, rfl, by simpa using hown1, ?_, by simp [hnil1]⟩
  exact ((Below.refl w.1.size w).alloc lR _).trans (ht1.below (by simp) (fun k hk => by simp [Value.ownBlock]; omega))
end Go.Proofs.YtiebpncpdbnelaaDoor
