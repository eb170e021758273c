/- Texts that stand one behind the other, in one file. -/
import Derived.Test.YtiebpncpdbnelaaDoorZac
import Derived.Test.YtiebpncpdbnelaaDoorProg
import Derived.OwnWalk
import Derived.Outline
import Derived.OrdersHeld
import Derived.StillTail
import Derived.Deep.RegionHeld3
set_option maxHeartbeats 1000000
namespace Go.Proofs.YtiebpncpdbnelaaDoor
structure ANd where
 need : Nat
 ban : Nat
 inn : Nat
 to : List Int
def ANd.none : ANd := ⟨0, 0, 0, []⟩
structure Aut where
 sets : Int
 init : List Int
 nodes : List ANd
def rdsB (x : ANd) (S : Nat) : Bool := decide (x.need &&& S = x.need) && decide (x.ban &&& S = 0)
def Aut.Ok (a : Aut) : Prop := (∀ i ∈ a.init, isNd a.nodes.length i = true) ∧ ∀ x ∈ a.nodes, ∀ t ∈ x.to, isNd a.nodes.length t = true
def Aut.at (a : Aut) (q : Nat) : ANd := a.nodes.getD q ANd.none
def prodR (a : Aut) (W : List Nat) (lp q k : Nat) : List Nd :=
 if rdsB (a.at q) (W.getD k 0) = true then ((a.at q).to.filter (fun t => rdsB (a.at t.toNat) (W.getD (nx lp W.length k) 0))).map (fun t => ⟨t * (W.length : Int) + ((nx lp W.length k : Nat) : Int), 0⟩) else []
def prodE (a : Aut) (W : List Nat) (lp : Nat) : List (List Nd) := (List.range (a.nodes.length * W.length)).map (fun m => prodR a W lp (m / W.length) (m % W.length))
def asksA (a : Aut) (n : Nat) : List (Nat → Bool) := (fun _ => true) :: (List.range a.sets.toNat).map (fun i m => (a.at (m / n)).inn.testBit i)
def takesZ (a : Aut) (W : List Nat) (z : List Bool) : Prop := ∃ q : Nat, (q : Int) ∈ a.init ∧ rdsB (a.at q) (W.getD 0 0) = true ∧ z.getD (q * W.length) false = true
section
variable {a : Aut} {W : List Nat} {lp : Nat}
theorem prodE_len (a : Aut) (W : List Nat) (lp : Nat) : (prodE a W lp).length = a.nodes.length * W.length := by simp [prodE]
theorem idx_lt {q k N n : Nat} (hq : q < N) (hk : k < n) : q * n + k < N * n := by
 have : (q + 1) * n ≤ N * n := Nat.mul_le_mul_right _ hq
 rw [Nat.succ_mul] at this; omega
theorem idx_div {q k n : Nat} (hk : k < n) : (q * n + k) / n = q ∧ (q * n + k) % n = k := by
 constructor
 ·rw [Nat.mul_comm, Nat.mul_add_div (by omega), Nat.div_eq_of_lt hk, Nat.add_zero]
 ·rw [Nat.mul_comm, Nat.mul_add_mod, Nat.mod_eq_of_lt hk]
theorem prodE_at {q k : Nat} (hq : q < a.nodes.length) (hk : k < W.length) : (prodE a W lp).getD (q * W.length + k) [] = prodR a W lp q k := by
 have h := idx_lt hq hk
 obtain ⟨h1, h2⟩ := idx_div (q := q) hk
 simp [prodE, List.getD, h, h1, h2]
theorem ed_prod (hA : a.Ok) (hlp : lp < W.length) {z : List Bool} {q k j : Nat} (hq : q < a.nodes.length) (hk : k < W.length) (hz : z.length = a.nodes.length * W.length) :
  Ed (prodE a W lp) z (q * W.length + k) j ↔ ∃ q' : Nat, q' < a.nodes.length ∧ j = q' * W.length + nx lp W.length k ∧ z.getD (q * W.length + k) false = true ∧ z.getD j false = true ∧ (q' : Int) ∈ (a.at q).to ∧
   rdsB (a.at q) (W.getD k 0) = true ∧ rdsB (a.at q') (W.getD (nx lp W.length k) 0) = true := by
 have hix := idx_lt hq hk
 have hnx : nx lp W.length k < W.length := nx_lt hlp
 unfold Ed
 rw [prodE_len, prodE_at hq hk, hz]
 constructor
 ·rintro ⟨_, _, h3, h4, h5⟩
  unfold prodR at h5
  split at h5
  ·next hr =>
   simp only [tgts, List.mem_map] at h5
   obtain ⟨e, ⟨t, ht, rfl⟩, hj⟩ := h5
   obtain ⟨ht1, ht2⟩ := List.mem_filter.1 ht
   have hn : a.at q ∈ a.nodes := by
    unfold Aut.at; rw [gD, gE hq]; exact mM hq
   obtain ⟨q', rfl, hq'⟩ := isNd_nat (hA.2 _ hn t ht1)
   dsimp only at hj
   rw [tN] at ht2
   refine ⟨q', hq', ?_, h3, h4, ht1, hr, ht2⟩
   have : ((q' * W.length + nx lp W.length k : Nat) : Int) = (j : Int) := by rw [← hj]; simp
   omega
  ·simp [tgts] at h5
 ·rintro ⟨q', hq', rfl, h3, h4, h5, h6, h7⟩
  refine ⟨hix, idx_lt hq' hnx, h3, h4, ?_⟩
  unfold prodR
  rw [if_pos h6]
  simp only [tgts, List.mem_map]
  refine ⟨⟨(q' : Int) * (W.length : Int) + ((nx lp W.length k : Nat) : Int), 0⟩, ⟨(q' : Int), List.mem_filter.2 ⟨h5, by rw [tN]; exact h7⟩, rfl⟩, by simp⟩
end
end Go.Proofs.YtiebpncpdbnelaaDoor
namespace Go.Proofs.YtiebpncpdbnelaaDoor
def chkNd (N : Nat) (s : Int) (x : ANd) : Int := if x.to.all (isNd N) = true then (if x.inn >>> s.toNat = 0 then 0 else 3) else 10
def chkNds (N : Nat) (s : Int) : List ANd → Int
 | [] => 0
 | x :: r => if chkNd N s x = 0 then chkNds N s r else chkNd N s x
def chkA (a : Aut) : Int := if 256 < a.nodes.length ∨ 16 < a.sets then 11 else if a.sets < 0 then 10 else if a.init.all (isNd a.nodes.length) = true then chkNds a.nodes.length a.sets a.nodes else 10
theorem chkNds_ok {N : Nat} {s : Int} : ∀ {l : List ANd}, (∀ x ∈ l, chkNd N s x = 0) → chkNds N s l = 0
 | [], _ => rfl
 | x :: r, h => by
  unfold chkNds
  rw [if_pos (h x (by simp))]
  exact chkNds_ok (fun y hy => h y (by simp [hy]))
theorem chkNds_at {N : Nat} {s : Int} : ∀ {l : List ANd} {i : Nat} (hi : i < l.length), (∀ x ∈ l.take i, chkNd N s x = 0) → chkNd N s l[i] ≠ 0 → chkNds N s l = chkNd N s l[i]
 | x :: r, 0, _, _, hx => by
  unfold chkNds
  rw [if_neg (by simpa using hx)]; rfl
 | x :: r, i + 1, hi, h, hx => by
  unfold chkNds
  rw [if_pos (h x (by simp))]
  simp only [List.getElem_cons_succ] at hx ⊢
  exact chkNds_at (by simpa using hi) (fun y hy => h y (by simp [hy])) hx
theorem chkA_zero {a : Aut} (h1 : a.nodes.length ≤ 256) (h2 : 0 ≤ a.sets ∧ a.sets ≤ 16) (h3 : a.Ok) (h4 : ∀ x ∈ a.nodes, x.inn < 2 ^ a.sets.toNat) : chkA a = 0 := by
 unfold chkA
 rw [if_neg (by omega), if_neg (by omega), if_pos (List.all_eq_true.2 (fun i hi => h3.1 i hi))]
 refine chkNds_ok (fun x hx => ?_)
 unfold chkNd
 rw [if_pos (List.all_eq_true.2 (fun t ht => h3.2 x hx t ht)), if_pos (by rw [Nat.shiftRight_eq_div_pow]; exact Nat.div_eq_of_lt (h4 x hx))]
theorem all_takeS {α : Type} {l : List α} {P : α → Prop} {i : Nat} (hi : i < l.length) (h : ∀ x ∈ l.take i, P x) (hx : P l[i]) : ∀ x ∈ l.take (i + 1), P x := by
 intro x hm
 rw [take_snoc l i hi] at hm
 rcases List.mem_append.1 hm with hm | hm
 ·exact h x hm
 ·rw [mS] at hm; subst hm; exact hx
end Go.Proofs.YtiebpncpdbnelaaDoor
namespace Go.Proofs.YtiebpncpdbnelaaDoor
def plc (lp L : Nat) : Nat → Nat
 | 0 => 0
 | k + 1 => nx lp L (plc lp L k)
theorem plc_lt {lp L : Nat} (hlp : lp < L) : ∀ k, plc lp L k < L
 | 0 => Nat.lt_of_le_of_lt (Nat.zero_le _) hlp
 | _k + 1 => nx_lt hlp
structure RunOf (a : Aut) (W : List Nat) (lp : Nat) (r : Nat → Nat) : Prop where
 lt : ∀ k, r k < a.nodes.length
 rds : ∀ k, rdsB (a.at (r k)) (W.getD (plc lp W.length k) 0) = true
 to : ∀ k, ((r (k + 1) : Nat) : Int) ∈ (a.at (r k)).to
 met : ∀ i, i < a.sets.toNat → ∀ k, ∃ m, k ≤ m ∧ (a.at (r m)).inn.testBit i = true
def Acc (a : Aut) (W : List Nat) (lp : Nat) : Prop := ∃ r, (((r 0 : Nat) : Int) ∈ a.init) ∧ RunOf a W lp r
def asksD (a : Aut) (dq : Nat → Nat) : List (Nat → Bool) := (fun _ => true) :: (List.range a.sets.toNat).map (fun i m => (a.at (dq m)).inn.testBit i)
theorem asksD_iff {a : Aut} {dq : Nat → Nat} {P : (Nat → Bool) → Prop} : (∀ p ∈ asksD a dq, P p) ↔ P (fun _ => true) ∧ ∀ i, i < a.sets.toNat → P (fun m => (a.at (dq m)).inn.testBit i) := by
 constructor
 ·intro h
  exact ⟨h _ (List.mem_cons_self ..), fun i hi => h _ (List.mem_cons_of_mem _ (List.mem_map.2 ⟨i, List.mem_range.2 hi, rfl⟩))⟩
 ·rintro ⟨h1, h2⟩ p hp
  rcases List.mem_cons.1 hp with rfl | hp
  ·exact h1
  ·obtain ⟨i, hi, rfl⟩ := List.mem_map.1 hp
   exact h2 i (List.mem_range.1 hi)
section
variable {a : Aut} {W : List Nat} {lp : Nat} {E : List (List Nd)} {ix : Nat → Nat → Nat} {dq : Nat → Nat}
theorem runs_prod (hlp : lp < W.length) (hdq : ∀ q k, q < a.nodes.length → k < W.length → dq (ix q k) = q)
  (harc : ∀ q k j, q < a.nodes.length → k < W.length → (Arc E (ix q k) j ↔ ∃ q' : Nat, q' < a.nodes.length ∧ j = ix q' (nx lp W.length k) ∧ (q' : Int) ∈ (a.at q).to ∧ rdsB (a.at q) (W.getD k 0) = true ∧ rdsB (a.at q') (W.getD (nx lp W.length k) 0) = true))
  {q : Nat} (hq : q < a.nodes.length) : Runs E (asksD a dq) (ix q 0) ↔ ∃ r, r 0 = q ∧ RunOf a W lp r := by
 constructor
 ·rintro ⟨π, h0, h1, h2⟩
  rw [asksD_iff] at h2
  have key : ∀ k, dq (π k) < a.nodes.length ∧ π k = ix (dq (π k)) (plc lp W.length k) := by
   intro k
   induction k with
   | zero =>
    have h3 := hdq q 0 hq (by omega)
    rw [h0, h3]
    exact ⟨hq, rfl⟩
   | succ k ih =>
    have hs := h1 k
    rw [ih.2, harc _ _ _ ih.1 (plc_lt hlp k)] at hs
    obtain ⟨q', hq', hj, _⟩ := hs
    have h3 := hdq q' _ hq' (nx_lt hlp (i := plc lp W.length k))
    rw [hj, h3]
    exact ⟨hq', rfl⟩
  have hst : ∀ k, ((dq (π (k + 1)) : Nat) : Int) ∈ (a.at (dq (π k))).to ∧ rdsB (a.at (dq (π k))) (W.getD (plc lp W.length k) 0) = true := by
   intro k
   have hs := h1 k
   obtain ⟨a1, a2⟩ := key k
   rw [a2, harc _ _ _ a1 (plc_lt hlp k)] at hs
   obtain ⟨q', hq', hj, c1, c2, _⟩ := hs
   have h3 := hdq q' _ hq' (nx_lt hlp (i := plc lp W.length k))
   rw [hj, h3]
   exact ⟨c1, c2⟩
  refine ⟨fun k => dq (π k), by dsimp only; rw [h0, hdq q 0 hq (by omega)], fun k => (key k).1, fun k => (hst k).2, fun k => (hst k).1, fun i hi k => ?_⟩
  obtain ⟨m, c1, c2⟩ := h2.2 i hi k
  exact ⟨m, c1, c2⟩
 ·rintro ⟨r, rfl, h⟩
  refine ⟨fun k => ix (r k) (plc lp W.length k), rfl, fun k => ?_, ?_⟩
  ·rw [harc _ _ _ (h.lt k) (plc_lt hlp k)]
   exact ⟨r (k + 1), h.lt (k + 1), rfl, h.to k, h.rds k, h.rds (k + 1)⟩
  ·rw [asksD_iff]
   refine ⟨fun k => ⟨k, lR, rfl⟩, fun i hi k => ?_⟩
   obtain ⟨m, c1, c2⟩ := h.met i hi k
   exact ⟨m, c1, by dsimp only; rw [hdq _ _ (h.lt m) (plc_lt hlp m)]; exact c2⟩
theorem arc_all {E : List (List Nd)} {i j : Nat} : Arc E i j ↔ Ed E (List.replicate E.length true) i j := by
 have hr : ∀ k, k < E.length → (List.replicate E.length true).getD k false = true := fun k hk => by simp [List.getD, hk]
 constructor
 ·rintro ⟨h1, h2, h3⟩
  exact ⟨h1, by simpa using h2, hr i h1, hr j h2, h3⟩
 ·rintro ⟨h1, h2, _, _, h3⟩
  exact ⟨h1, by simpa using h2, h3⟩
theorem arc_prod (hA : a.Ok) (hlp : lp < W.length) {q k j : Nat} (hq : q < a.nodes.length) (hk : k < W.length) :
  Arc (prodE a W lp) (q * W.length + k) j ↔ ∃ q' : Nat, q' < a.nodes.length ∧ j = q' * W.length + nx lp W.length k ∧ (q' : Int) ∈ (a.at q).to ∧ rdsB (a.at q) (W.getD k 0) = true ∧ rdsB (a.at q') (W.getD (nx lp W.length k) 0) = true := by
 have hr : ∀ m, m < a.nodes.length * W.length → (List.replicate (prodE a W lp).length true).getD m false = true := fun m hm => by rw [prodE_len]; simp [List.getD, hm]
 rw [arc_all, ed_prod hA hlp hq hk (by rw [List.length_replicate, prodE_len])]
 constructor
 ·rintro ⟨q', h1, h2, _, _, h5, h6, h7⟩
  exact ⟨q', h1, h2, h5, h6, h7⟩
 ·rintro ⟨q', h1, h2, h5, h6, h7⟩
  exact ⟨q', h1, h2, hr _ (idx_lt hq hk), by rw [h2]; exact hr _ (idx_lt h1 (nx_lt hlp)), h5, h6, h7⟩
theorem takes_acc (hA : a.Ok) (hlp : lp < W.length) {z : List Bool} (hz : Gfp (prodE a W lp) (asksA a W.length) z) : takesZ a W z ↔ Acc a W lp := by
 have hruns : ∀ q, q < a.nodes.length → (z.getD (q * W.length) false = true ↔ ∃ r, r 0 = q ∧ RunOf a W lp r) := by
  intro q hq
  rw [gfp_runs hz (by simp [asksA])]
  exact runs_prod (ix := fun q k => q * W.length + k) (dq := fun m => m / W.length) hlp (fun q k _ hk => (idx_div hk).1) (fun q k j hq hk => arc_prod hA hlp hq hk) hq
 unfold takesZ Acc
 constructor
 ·rintro ⟨q, h1, h2, h3⟩
  obtain ⟨q', e, hq'⟩ := isNd_nat (hA.1 _ h1)
  have : q = q' := by omega
  subst this
  obtain ⟨r, rfl, hr⟩ := (hruns q hq').1 h3
  exact ⟨r, h1, hr⟩
 ·rintro ⟨r, h1, hr⟩
  exact ⟨r 0, h1, hr.rds 0, (hruns (r 0) (hr.lt 0)).2 ⟨r, rfl, hr⟩⟩
noncomputable def accB (a : Aut) (W : List Nat) (lp : Nat) : Bool := @decide (Acc a W lp) (Classical.propDecidable _)
theorem accB_iff : accB a W lp = true ↔ Acc a W lp := @decide_eq_true_iff _ (Classical.propDecidable _)
def alongR (a : Aut) (W : List Nat) (lp k q : Nat) : List Nd :=
 ((a.at q).to.filter (fun t => rdsB (a.at q) (W.getD k 0) && rdsB (a.at t.toNat) (W.getD (nx lp W.length k) 0))).map (fun t => ⟨((nx lp W.length k : Nat) : Int) * (a.nodes.length : Int) + t, 0⟩)
def alongE (a : Aut) (W : List Nat) (lp : Nat) : List (List Nd) := (List.range (W.length * a.nodes.length)).map (fun m => alongR a W lp (m / a.nodes.length) (m % a.nodes.length))
theorem alongE_len (a : Aut) (W : List Nat) (lp : Nat) : (alongE a W lp).length = W.length * a.nodes.length := by simp [alongE]
theorem alongE_at {q k : Nat} (hq : q < a.nodes.length) (hk : k < W.length) : (alongE a W lp).getD (k * a.nodes.length + q) [] = alongR a W lp k q := by
 have h := idx_lt hk hq
 obtain ⟨h1, h2⟩ := idx_div (q := k) hq
 simp [alongE, List.getD, h, h1, h2]
theorem arc_along (hA : a.Ok) (hlp : lp < W.length) {q k j : Nat} (hq : q < a.nodes.length) (hk : k < W.length) :
  Arc (alongE a W lp) (k * a.nodes.length + q) j ↔ ∃ q' : Nat, q' < a.nodes.length ∧ j = nx lp W.length k * a.nodes.length + q' ∧ (q' : Int) ∈ (a.at q).to ∧ rdsB (a.at q) (W.getD k 0) = true ∧ rdsB (a.at q') (W.getD (nx lp W.length k) 0) = true := by
 have hnx : nx lp W.length k < W.length := nx_lt hlp
 unfold Arc
 rw [alongE_len, alongE_at hq hk]
 have hn : a.at q ∈ a.nodes := by
  unfold Aut.at; rw [gD, gE hq]; exact mM hq
 constructor
 ·rintro ⟨_, _, h5⟩
  unfold alongR at h5
  simp only [tgts, List.mem_map] at h5
  obtain ⟨e, ⟨t, ht, rfl⟩, hj⟩ := h5
  obtain ⟨ht1, ht2⟩ := List.mem_filter.1 ht
  obtain ⟨q', rfl, hq'⟩ := isNd_nat (hA.2 _ hn t ht1)
  dsimp only at hj
  rw [tN, Bool.and_eq_true] at ht2
  refine ⟨q', hq', ?_, ht1, ht2.1, ht2.2⟩
  have : ((nx lp W.length k * a.nodes.length + q' : Nat) : Int) = (j : Int) := by rw [← hj]; simp
  omega
 ·rintro ⟨q', hq', rfl, h5, h6, h7⟩
  refine ⟨idx_lt hk hq, idx_lt hnx hq', ?_⟩
  unfold alongR
  simp only [tgts, List.mem_map]
  refine ⟨⟨((nx lp W.length k : Nat) : Int) * (a.nodes.length : Int) + (q' : Int), 0⟩, ⟨(q' : Int), List.mem_filter.2 ⟨h5, by rw [tN, h6, h7]; rfl⟩, rfl⟩, by simp⟩
theorem along_acc (hA : a.Ok) (hlp : lp < W.length) : (∃ q : Nat, (q : Int) ∈ a.init ∧ rdsB (a.at q) (W.getD 0 0) = true ∧ Runs (alongE a W lp) (asksD a (fun m => m % a.nodes.length)) q) ↔ Acc a W lp := by
 have hruns : ∀ q, q < a.nodes.length → (Runs (alongE a W lp) (asksD a (fun m => m % a.nodes.length)) q ↔ ∃ r, r 0 = q ∧ RunOf a W lp r) := by
  intro q hq
  have := runs_prod (E := alongE a W lp) (a := a) (W := W) (lp := lp) (ix := fun q k => k * a.nodes.length + q) (dq := fun m => m % a.nodes.length) hlp (fun q k hq _ => (idx_div hq).2) (fun q k j hq hk => arc_along hA hlp hq hk) hq
  rwa [Nat.zero_mul, Nat.zero_add] at this
 unfold Acc
 constructor
 ·rintro ⟨q, h1, h2, h3⟩
  obtain ⟨q', e, hq'⟩ := isNd_nat (hA.1 _ h1)
  have : q = q' := by omega
  subst this
  obtain ⟨r, rfl, hr⟩ := (hruns q hq').1 h3
  exact ⟨r, h1, hr⟩
 ·rintro ⟨r, h1, hr⟩
  exact ⟨r 0, h1, hr.rds 0, (hruns (r 0) (hr.lt 0)).2 ⟨r, rfl, hr⟩⟩
end
end Go.Proofs.YtiebpncpdbnelaaDoor
namespace Go.Proofs.YtiebpncpdbnelaaDoor
open Go.RowKit
def bcells (l : List Bool) : List Value := l.map .bool
theorem bcells_len (l : List Bool) : (bcells l).length = l.length := by simp [bcells]
theorem infoBool : (Tryd.prog.info? 4).map (fun i => (i.zero, i.size, i.bytes)) = some (some (.bool false), 1, 1) := by kernel_rfl
def ucells (l : List Int) : List Value := l.map (.int .u64)
theorem ucells_at {l : List Int} {i : Nat} (h : i < l.length) : (ucells l)[i]? = some (.int .u64 (l.getD i 0)) := by simp [ucells, List.getD, h]
theorem Sl.drew {w : World} {B size n c : Nat} {A : Option Addr} {xs : List Value} (h : Sl w B size A n c xs) : Sl w.drew B size A n c xs := { h with rd := h.rd }
theorem ucells_len (l : List Int) : (ucells l).length = l.length := by simp [ucells]
theorem below_undrew {B : Nat} {w w' : World} (h : Below B w.drew w') : Below B w w' := ⟨h.os, h.tape, h.output, h.size, h.block⟩
end Go.Proofs.YtiebpncpdbnelaaDoor
namespace Go.Proofs.YtiebpncpdbnelaaDoor
abbrev Cov := Nat × Nat × List Bool × List Bool
end Go.Proofs.YtiebpncpdbnelaaDoor
namespace Go.Proofs.YtiebpncpdbnelaaDoor
open Go.RowKit
theorem sliceInt : SliceT Tryd.prog 22 3 1 8 :=
 SliceT.mk (z := .int .i64 0) Tryd.underlying22 (by kernel_rfl) (by decide) (by decide)
end Go.Proofs.YtiebpncpdbnelaaDoor
namespace Go.Proofs.YtiebpncpdbnelaaDoor
open Go.RowKit
theorem cloneInt_any (A : Option Addr) (n c : Nat) (xs : List Value) (w : World) (B : Nat) (hs : Sl w B 1 A n c xs) (h1 : ∀ u ∈ xs, u.oneCell' = true) (hB : B ≤ w.1.size) (hn : n ≤ 1000000000) :
  Calls Tryd.prog 119 #[.slice A n c] w (NewRow w 3 1 n xs (A = none)) := by
 have hnil := fun (w : World) (a : Option Addr) (l c : Nat) => Lib.run_eql_slice_nil (P := Tryd.prog) w 22 3 a l c 0 0 Tryd.underlying22
 rcases A with _ | ad
 ·have hc : c = 0 := hs.nil rfl
  have hm : n = 0 := by have := hs.cap; omega
  subst hc; subst hm
  have hx : xs = [] := List.eq_nil_of_length_eq_zero (by rw [hs.len])
  subst hx
  go_enter Tryd.func119, Tryd.ntmps119
  go_wp2
  go_ret
  exact ⟨_, rfl, World.ownsRow_nil _ _ _ _, bR, by simp⟩
 ·have hb0 : ∀ w : World, (w.alloc (.cells #[] 3)).ownsRow w.1.size 3 1 (.slice (some ⟨w.1.size, 0, none⟩) 0 0) 0 [] :=
   fun w => World.ownsRow_made w #[] 0 lR (by unfold maxLen; omega) (by simp)
  go_enter Tryd.func119, Tryd.ntmps119
  go_wp2_with (at_builtin; refine wpList_extend rfl (.tmp 5) (.tmp 6) 22 rfl w.1.size 3 1 8 sliceInt _ _ _ (hb0 w) rfl B (some ad) n c xs rfl (hs.below ((Below.refl w.1.size w).alloc lR _) hB) h1 (by omega) (by omega) (by simp) ?_; intro v1 w1 hown1 ht1 hat1 hnil1)
  go_ret
  refine ⟨v1, rfl, by simpa using hown1, ?_, by simp [hnil1]⟩
  exact ((Below.refl w.1.size w).alloc lR _).trans (ht1.below (by simp) (fun k hk => by simp [Value.ownBlock]; omega))
end Go.Proofs.YtiebpncpdbnelaaDoor
namespace Go.Proofs.YtiebpncpdbnelaaDoor
open Go.RowKit
theorem sliceU64 : SliceT Tryd.prog 27 41 1 8 :=
 SliceT.mk (z := .int .u64 0) Tryd.underlying27 (by kernel_rfl) (by decide) (by decide)
end Go.Proofs.YtiebpncpdbnelaaDoor
namespace Go.Proofs.YtiebpncpdbnelaaDoor
open Go.RowKit
theorem wpList_extendB {P : Program} {ops : Array Oper} {rest : List Oper} {o : Oper} {a : Act} {Q : Exit → Act → World → Prop} {w : World} (hgd : o.guard = none) (s x : Operand) (t : TypeId) (ho : o.op = .call { callee := .builtin .append, args := #[s, x], argTypes := #[t, t] })
  (base e size bytes : Nat) (T : SliceT P t e size bytes) (v : Value) (n : Nat) (xs : List Value) (hown : w.ownsRow base e size v n xs) (hs : a.eval s = v)
  (B : Nat) (A : Option Addr) (m c : Nat) (news : List Value) (hx : a.eval x = .slice A m c) (hr : Sl w B size A m c news) (h1 : ∀ u ∈ news, u.oneCell' = true)
  (hn : n + m ≤ 9223372036854775807) (hbb : (n + m) * bytes ≤ 140737488355328) (hbase : base ≤ w.1.size)
  (h : ∀ v' w', w'.ownsRow base e size v' (n + m) (xs ++ news) → Tch (fun k => v.ownBlock = some k) w w' → (v'.ownBlock = v.ownBlock ∨ v'.ownBlock = some w.1.size) → (v' = .slice none 0 0 ↔ v = .slice none 0 0 ∧ m = 0) → wpList P ops Q rest (a.put o.dst v') w') :
  wpList P ops Q (o :: rest) a w := by
 obtain ⟨ht, hsz, i, z, hi, hz, hs1, hb1, hz1⟩ := T
 rcases A with _ | ad
 ·have hc : c = 0 := hr.nil rfl
  have hm : m = 0 := by have := hr.cap; omega
  subst hc; subst hm
  have hnews : news = [] := List.eq_nil_of_length_eq_zero (by rw [hr.len]; simp)
  subst hnews
  exact wpList_append_own_none hgd s x t ho base e i size ht hi v n xs hs hown hx
   (h v w (by simpa using hown) (Tch.refl _ _) (.inl rfl) (by simp))
 ·have hnews : ∀ j u, news[j]? = some u → w.cell? (ad.add j) = some u := by
   intro j u hu
   obtain ⟨b, off, hA, _, hc⟩ := hr.rd.at_ hu
   cases hA
   have hadd : (⟨b, off, none⟩ : Addr).add j = ⟨b, off + j, none⟩ := by
    unfold Addr.add
    split
    ·rename_i h; subst h; rfl
    ·rfl
   rw [hadd]; exact hc
  exact wpList_append_own_at w hgd s x t ho base e i z size bytes ht hi hz hs1 hb1 hz1 hsz v n xs hs hown ad m c news hx hr.len hnews h1 (by unfold maxLen; omega) hbb hbase
   (fun v' w' h2 h3 h4 h5 => h v' w' h2 (Tch.of_grown h3) h5 h4)
theorem cloneU_any (A : Option Addr) (n c : Nat) (xs : List Value) (w : World) (B : Nat) (hs : Sl w B 1 A n c xs) (h1 : ∀ u ∈ xs, u.oneCell' = true) (hB : B ≤ w.1.size) (hn : n ≤ 17592186044416) :
  Calls Tryd.prog 124 #[.slice A n c] w (NewRow w 41 1 n xs (A = none)) := by
 have hnil := fun (w : World) (a : Option Addr) (l c : Nat) => Lib.run_eql_slice_nil (P := Tryd.prog) w 27 41 a l c 0 0 Tryd.underlying27
 rcases A with _ | ad
 ·have hc : c = 0 := hs.nil rfl
  have hm : n = 0 := by have := hs.cap; omega
  subst hc; subst hm
  have hx : xs = [] := List.eq_nil_of_length_eq_zero (by rw [hs.len])
  subst hx
  go_enter Tryd.func124, Tryd.ntmps124
  go_wp2
  go_ret
  exact ⟨_, rfl, World.ownsRow_nil _ _ _ _, bR, by simp⟩
 ·have hb0 : ∀ w : World, (w.alloc (.cells #[] 41)).ownsRow w.1.size 41 1 (.slice (some ⟨w.1.size, 0, none⟩) 0 0) 0 [] :=
   fun w => World.ownsRow_made w #[] 0 lR (by unfold maxLen; omega) (by simp)
  go_enter Tryd.func124, Tryd.ntmps124
  go_wp2_with (at_builtin; refine wpList_extendB rfl (.tmp 5) (.tmp 6) 27 rfl w.1.size 41 1 8 sliceU64 _ _ _ (hb0 w) rfl B (some ad) n c xs rfl (hs.below ((Below.refl w.1.size w).alloc lR _) hB) h1 (by omega) (by omega) (by simp) ?_; intro v1 w1 hown1 ht1 hat1 hnil1)
  go_ret
  refine ⟨v1, rfl, by simpa using hown1, ?_, by simp [hnil1]⟩
  exact ((Below.refl w.1.size w).alloc lR _).trans (ht1.below (by simp) (fun k hk => by simp [Value.ownBlock]; omega))
end Go.Proofs.YtiebpncpdbnelaaDoor
namespace Go.Proofs.YtiebpncpdbnelaaDoor
open Go.RowKit
theorem equalInt_any (A1 A2 : Option Addr) (n1 c1 n2 c2 : Nat) (xs ys : List Int) (w : World) (B1 B2 : Nat) (hx : Sl w B1 1 A1 n1 c1 (icells xs)) (hy : Sl w B2 1 A2 n2 c2 (icells ys))
  (hn1 : n1 = xs.length) (hn2 : n2 = ys.length) (hl : n1 ≤ 1000000000) :
  Calls Tryd.prog 51 #[.slice A1 n1 c1, .slice A2 n2 c2] w (Said w (decide (xs = ys))) := by
 by_cases hne : n1 = n2
 ·subst hne
  have HN1 := dh hn1
  have HN2 := dh hn2
  clear hn1 hn2
  have hd : ((n1 : Int) != (n1 : Int)) = false := by simp
  go_enter Tryd.func51, Tryd.ntmps51
  go_wp2
  go_loopw [13] (fun i wr => ∃ k m : Nat, k ≤ n1 ∧ i = .int .i64 k ∧ wr = w.drewN m ∧ Hid (xs.take k = ys.take k)) (fun i _ => n1 - (intOf i).toNat)
  case atStart => exact ⟨0, 0, by omega, rfl, rfl, rfl⟩
  case round =>
   obtain ⟨k, m, hk, rfl, rfl, ht⟩ := hrel
   by_cases hlt : k < n1
   ·have hkx : k < xs.length := by rw [← HN1.out]; exact hlt
    have hky : k < ys.length := by rw [← HN2.out]; exact hlt
    obtain ⟨b, o, rfl, _, hc⟩ := rd_int hx.rd hkx
    obtain ⟨b', o', rfl, _, hc'⟩ := rd_int hy.rd hky
    have hs := fun h => take_eq_snoc ht.out hkx hky h
    generalize hX : xs[k] = x at *
    generalize hY : ys[k] = y at *
    have HX := dh hX
    have HY := dh hY
    have HS := dh hs
    clear hX hY hs
    have h0 : (0 : Int) ≤ (k : Int) := by omega
    have h1 : (k : Int) < (n1 : Int) := by omega
    go_wp2_with fail
    go_quiet (fail)
    go_wp2
    ·go_ret
     refine ⟨ret_bool ?_, ?_⟩
     ·have hne : x ≠ y := by first | assumption | (rename_i h; simpa using h)
      symm; rw [decide_eq_false_iff_not]
      rintro rfl
      exact hne (HX.out.symm.trans HY.out)
     ·exact ⟨_, by rw [World.drewN_drewN]⟩
    ·have he : x = y := by first | assumption | (rename_i h; simpa using h)
     go_roundw
     case rel => exact ⟨k + 1, _, by omega, by go_num, by first | rfl | rw [World.drewN_drewN], HS.out he⟩
     case measure => simp [intOf]; omega
   ·have hkn : k = n1 := by omega
    subst hkn
    go_wp2
    go_ret
    refine ⟨ret_bool ?_, _, rfl⟩
    have := ht.out
    rw [tL (by rw [← HN1.out]; exact lR), tL (by rw [← HN2.out]; exact lR)] at this
    simp [this]
 ·have hd : ((n1 : Int) != (n2 : Int)) = true := by simp; omega
  have HD := dh hne
  have HN1 := dh hn1
  have HN2 := dh hn2
  clear hne hn1 hn2
  go_enter Tryd.func51, Tryd.ntmps51
  go_wp2
  go_ret
  refine ⟨ret_bool ?_, 0, rfl⟩
  symm; rw [decide_eq_false_iff_not]
  intro h
  exact HD.out (by rw [HN1.out, HN2.out, h])
end Go.Proofs.YtiebpncpdbnelaaDoor
namespace Go.Proofs.YtiebpncpdbnelaaDoor
open Go.RowKit
def natI (l : List Nat) : List Int := l.map (fun (i : Nat) => (i : Int))
theorem natI_len (l : List Nat) : (natI l).length = l.length := by simp [natI]
theorem natI_append (l r : List Nat) : natI (l ++ r) = natI l ++ natI r := by simp [natI]
end Go.Proofs.YtiebpncpdbnelaaDoor
namespace Go.Proofs.YtiebpncpdbnelaaDoor
open Go
section
variable {P : Program} {ops : Array Oper} {Q : Exit → Act → World → Prop} {md : Region.Mode} {S : World → Prop} {z : Nat}
def wpAnyT (P : Program) (md : Region.Mode) (ops : Array Oper) (Q : Exit → Act → World → Prop) (S : World → Prop) (z : Nat) : Nat → Array Bool → Act → World → Prop
 | 0, listed, a, w => Region.ready md ops listed = [] ∧ Q .normal a w
 | fuel + 1, listed, a, w => (Region.ready md ops listed = [] → Q .normal a w) ∧
  ∀ i ∈ Region.ready md ops listed, wpOp P ops Q i (fun a' w' => (i ≠ z → S w') ∧ wpAnyT P md ops Q S z fuel (listed.setIfInBounds i true) a' w') a w
theorem wpAny_of_T : ∀ (fuel : Nat) (listed : Array Bool) (a : Act) (w : World), wpAnyT P md ops Q S z fuel listed a w → wpAny P md ops Q fuel listed a w
 | 0, _, _, _, h => h
 | fuel + 1, _, _, _, h => ⟨h.1, fun i hi => wpOp_mono (fun a' w' h' => wpAny_of_T fuel _ a' w' h'.2) (h.2 i hi)⟩
theorem wpAnyT_first {i : Nat} {oi : Oper} {v : Value} (hi : ops[i]? = some oi) (hsel : ∀ (j : Nat) (o : Oper) cs b, ops[j]? = some o → o.op ≠ .select cs b)
  (hQ : ∀ c a w, Q (.panic c) (a.put oi.dst v) w → Q (.panic c) a w) (hz : ∃ oz, ops[z]? = some oz ∧ ∃ e ∈ oz.after, Region.binds md e = true ∧ e.on = i) :
  ∀ (fuel : Nat) (listed : Array Bool) (a : Act) (w : World),
   (∀ j oj, ops[j]? = some oj → j ≠ i → listed.getD j true = false → (∀ e ∈ oj.after, Region.binds md e = true → e.on ≠ i) → oi.apart ops oj = true) →
   i ∈ Region.ready md ops listed → YieldsIf P ops S oi v a → S w →
   wpAnyT P md ops Q S z fuel (listed.setIfInBounds i true) (a.put oi.dst v) w → wpAnyT P md ops Q S z (fuel + 1) listed a w := by
 intro fuel
 induction fuel with
 | zero =>
  intro listed a w _ hr hy hS H
  refine ⟨fun h => (by rw [h] at hr; cases hr), fun j hj => ?_⟩
  by_cases hji : j = i
  ·subst hji; exact hy.wpOp hi hS ⟨fun _ => hS, H⟩
  ·have := ready_mono hj hji
   rw [H.1] at this
   cases this
 | succ fuel ih =>
  intro listed a w hfree hr hy hS H
  refine ⟨fun h => (by rw [h] at hr; cases hr), fun j hj => ?_⟩
  by_cases hji : j = i
  ·subst hji; exact hy.wpOp hi hS ⟨fun _ => hS, H⟩
  ·have h1 := H.2 j (ready_mono hj hji)
   obtain ⟨hjun, oj, hoj, hall⟩ := mem_ready.1 hj
   have hnot : ∀ e ∈ oj.after, Region.binds md e = true → e.on ≠ i := fun e he hb heq => by
    have g1 := hall e he hb
    have g0 := (mem_ready.1 hr).1
    rw [heq] at g1
    rcases Nat.lt_or_ge i listed.size with h' | h'
    ·simp [h'] at g0 g1; rw [g0] at g1; cases g1
    ·simp [Array.getElem?_eq_none h'] at g1
   have hjz : j ≠ z := by
    rintro rfl
    obtain ⟨oz, hoz, e, he, hb, hon⟩ := hz
    rw [hoj] at hoz
    cases hoz
    exact hnot e he hb hon
   have h2 := wpOp_putIf hoj (hfree j oj hoj hji hjun hnot) (fun cs b => hsel i oi cs b hi) (fun cs b => hsel j oj cs b hoj) hQ hy h1
   have hfree' : ∀ k ok, ops[k]? = some ok → k ≠ i → (listed.setIfInBounds j true).getD k true = false →
     (∀ e ∈ ok.after, Region.binds md e = true → e.on ≠ i) → oi.apart ops ok = true := fun k ok hk hki hun hno => by
    refine hfree k ok hk hki ?_ hno
    by_cases hjk : j = k
    ·subst hjk; exact hjun
    ·rw [getD_set_ne true hjk] at hun; exact hun
   refine wpOp_mono (fun a' w' h3 => ⟨fun _ => h3.2.1 hjz, ih (listed.setIfInBounds j true) a' w' hfree' (ready_mono hr (Ne.symm hji)) h3.1 (h3.2.1 hjz) ?_⟩) h2
   rw [Array.setIfInBounds_comm _ _ hji]
   exact h3.2.2
theorem wpAnyT_take {i : Nat} {oi : Oper} {v : Value} {fuel : Nat} {listed : Array Bool} {a : Act} {w : World} (hi : ops[i]? = some oi)
  (hs : Region.noSelect ops = true) (hf : Region.free md ops listed i = true) (hr : (Region.ready md ops listed).contains i = true) (hw : Region.waitsFor md ops z i = true)
  (hQ : ∀ c a w, Q (.panic c) (a.put oi.dst v) w → Q (.panic c) a w) (hy : YieldsIf P ops S oi v a) (hS : S w)
  (h : wpAnyT P md ops Q S z fuel (listed.setIfInBounds i true) (a.put oi.dst v) w) : wpAnyT P md ops Q S z (fuel + 1) listed a w :=
 wpAnyT_first hi (Region.noSelect_spec hs) hQ (Region.waitsFor_spec hw) fuel listed a w (Region.free_spec hi hf) (by simpa using hr) hy hS h
theorem wpAnyT_one {i : Nat} {o : Oper} {fuel : Nat} {listed : Array Bool} {a : Act} {w : World} (ho : ops[i]? = some o) (hr : Region.ready md ops listed = [i]) (hiz : i ≠ z)
  (h : ∀ K' : Act → World → Prop, Shut (∀ a w, S w → (S w → wpAnyT P md ops Q S z fuel (listed.setIfInBounds i true) a w) → K' a w) → if Region.wanted o (yielded ops a.tmps) = true then Oper.wp P o a w K' Q else K' (a.put o.dst undef) w) :
  wpAnyT P md ops Q S z (fuel + 1) listed a w := by
 refine ⟨fun h0 => (by rw [h0] at hr; cases hr), fun j hj => ?_⟩
 rw [hr, mS] at hj
 subst hj
 exact wpOp_step ho (fun K' hK => h K' (fun a w hS hW => hK a w ⟨fun _ => hS, hW hS⟩))
theorem wpAnyT_end {o : Oper} {fuel : Nat} {listed : Array Bool} {a : Act} {w : World} (ho : ops[z]? = some o) (hr : Region.ready md ops listed = [z]) (hr2 : Region.ready md ops (listed.setIfInBounds z true) = [])
  (h : ∀ K' : Act → World → Prop, Shut (∀ a w, Q .normal a w → K' a w) → if Region.wanted o (yielded ops a.tmps) = true then Oper.wp P o a w K' Q else K' (a.put o.dst undef) w) :
  wpAnyT P md ops Q S z (fuel + 1) listed a w := by
 refine ⟨fun h0 => (by rw [h0] at hr; cases hr), fun j hj => ?_⟩
 rw [hr, mS] at hj
 subst hj
 refine wpOp_step ho (fun K' hK => h K' (fun a w hq => hK a w ⟨fun h => absurd rfl h, ?_⟩))
 cases fuel with
 | zero => exact ⟨hr2, hq⟩
 | succ n => exact ⟨fun _ => hq, by rw [hr2]; simp⟩
theorem wp_region_T {id : Nat} {a : Act} {w : World} (z : Nat) (hm : P.follows .mixedOrders = true) (hS : S w.drew)
  (h : S w.drew → wpAnyT P .any ops Q S z ops.size (Array.replicate ops.size false) a w.drew) : (Code.region id ops true).wp P Q a w :=
 wp_region_any hm (wpAny_of_T _ _ _ _ (h hS))
end
end Go.Proofs.YtiebpncpdbnelaaDoor
namespace Go.Proofs.YtiebpncpdbnelaaDoor
open Go
section
variable {P : Program} {ops : Array Oper} {Q : Exit → Act → World → Prop} {md : Region.Mode} {S : World → Prop}
theorem wpAnyH_one {i : Nat} {o : Oper} {fuel : Nat} {listed : Array Bool} {a : Act} {w : World} (ho : ops[i]? = some o) (hr : Region.ready md ops listed = [i])
  (h : ∀ K' : Act → World → Prop, Shut (∀ a w, S w → (S w → wpAnyH P md ops Q S fuel (listed.setIfInBounds i true) a w) → K' a w) → if Region.wanted o (yielded ops a.tmps) = true then Oper.wp P o a w K' Q else K' (a.put o.dst undef) w) :
  wpAnyH P md ops Q S (fuel + 1) listed a w :=
 wpAnyH_ready hr (by simp) (AllReadyH.cons ho h (fun _ h => by cases h))
theorem wpAnyH_oneD {i : Nat} {d : Option Tmp} {op : Op} {ty : TypeId} {pos : String} {after : Array Edge} {gd : Option (Nat × Bool)} {fuel : Nat} {listed : Array Bool} {a : Act} {w : World} (ho : ops[i]? = some ⟨d, op, ty, pos, after, gd⟩) (hr : Region.ready md ops listed = [i])
  (h : ∀ K' : Act → World → Prop, Shut (∀ a w, S w → (S w → wpAnyH P md ops Q S fuel (listed.setIfInBounds i true) a w) → K' a w) → if Region.wanted ⟨d, op, ty, pos, after, gd⟩ (yielded ops a.tmps) = true then Oper.wp P ⟨d, op, ty, pos, after, gd⟩ a w K' Q else K' (a.put d undef) w) :
  wpAnyH P md ops Q S (fuel + 1) listed a w := wpAnyH_one ho hr h
theorem wpAnyH_takeD {i : Nat} {d : Option Tmp} {op : Op} {ty : TypeId} {pos : String} {after : Array Edge} {gd : Option (Nat × Bool)} {v : Value} {fuel : Nat} {listed : Array Bool} {a : Act} {w : World} (hi : ops[i]? = some ⟨d, op, ty, pos, after, gd⟩)
  (hs : Region.noSelect ops = true) (hf : Region.free md ops listed i = true) (hr : (Region.ready md ops listed).contains i = true)
  (hQ : ∀ c a w, Q (.panic c) (a.put d v) w → Q (.panic c) a w) (hy : YieldsIf P ops S ⟨d, op, ty, pos, after, gd⟩ v a) (hS : S w)
  (h : wpAnyH P md ops Q S fuel (listed.setIfInBounds i true) (a.put d v) w) : wpAnyH P md ops Q S (fuel + 1) listed a w := wpAnyH_take hi hs hf hr hQ hy hS h
variable {z : Nat}
theorem wpAnyT_oneD {i : Nat} {d : Option Tmp} {op : Op} {ty : TypeId} {pos : String} {after : Array Edge} {gd : Option (Nat × Bool)} {fuel : Nat} {listed : Array Bool} {a : Act} {w : World} (ho : ops[i]? = some ⟨d, op, ty, pos, after, gd⟩) (hr : Region.ready md ops listed = [i]) (hiz : i ≠ z)
  (h : ∀ K' : Act → World → Prop, Shut (∀ a w, S w → (S w → wpAnyT P md ops Q S z fuel (listed.setIfInBounds i true) a w) → K' a w) → if Region.wanted ⟨d, op, ty, pos, after, gd⟩ (yielded ops a.tmps) = true then Oper.wp P ⟨d, op, ty, pos, after, gd⟩ a w K' Q else K' (a.put d undef) w) :
  wpAnyT P md ops Q S z (fuel + 1) listed a w := wpAnyT_one ho hr hiz h
theorem wpAnyT_takeD {i : Nat} {d : Option Tmp} {op : Op} {ty : TypeId} {pos : String} {after : Array Edge} {gd : Option (Nat × Bool)} {v : Value} {fuel : Nat} {listed : Array Bool} {a : Act} {w : World} (hi : ops[i]? = some ⟨d, op, ty, pos, after, gd⟩)
  (hs : Region.noSelect ops = true) (hf : Region.free md ops listed i = true) (hr : (Region.ready md ops listed).contains i = true) (hw : Region.waitsFor md ops z i = true)
  (hQ : ∀ c a w, Q (.panic c) (a.put d v) w → Q (.panic c) a w) (hy : YieldsIf P ops S ⟨d, op, ty, pos, after, gd⟩ v a) (hS : S w)
  (h : wpAnyT P md ops Q S z fuel (listed.setIfInBounds i true) (a.put d v) w) : wpAnyT P md ops Q S z (fuel + 1) listed a w := wpAnyT_take hi hs hf hr hw hQ hy hS h
theorem wpAnyT_endD {d : Option Tmp} {op : Op} {ty : TypeId} {pos : String} {after : Array Edge} {gd : Option (Nat × Bool)} {fuel : Nat} {listed : Array Bool} {a : Act} {w : World} (ho : ops[z]? = some ⟨d, op, ty, pos, after, gd⟩) (hr : Region.ready md ops listed = [z]) (hr2 : Region.ready md ops (listed.setIfInBounds z true) = [])
  (h : ∀ K' : Act → World → Prop, Shut (∀ a w, Q .normal a w → K' a w) → if Region.wanted ⟨d, op, ty, pos, after, gd⟩ (yielded ops a.tmps) = true then Oper.wp P ⟨d, op, ty, pos, after, gd⟩ a w K' Q else K' (a.put d undef) w) :
  wpAnyT P md ops Q S z (fuel + 1) listed a w := wpAnyT_end ho hr hr2 h
theorem allReadyH_consD {fuel : Nat} {listed : Array Bool} {a : Act} {w : World} {i : Nat} {d : Option Tmp} {op : Op} {ty : TypeId} {pos : String} {after : Array Edge} {gd : Option (Nat × Bool)} {rs : List Nat} (ho : ops[i]? = some ⟨d, op, ty, pos, after, gd⟩)
  (h : ∀ K' : Act → World → Prop, Shut (∀ a w, S w → (S w → wpAnyH P md ops Q S fuel (listed.setIfInBounds i true) a w) → K' a w) → if Region.wanted ⟨d, op, ty, pos, after, gd⟩ (yielded ops a.tmps) = true then Oper.wp P ⟨d, op, ty, pos, after, gd⟩ a w K' Q else K' (a.put d undef) w)
  (hs : AllReadyH P md ops Q S fuel listed a w rs) : AllReadyH P md ops Q S fuel listed a w (i :: rs) := AllReadyH.cons ho h hs
end
end Go.Proofs.YtiebpncpdbnelaaDoor
namespace Go.Proofs.YtiebpncpdbnelaaDoor
open Go
section
variable {P : Program} {ops : Array Oper} {Q : Exit → Act → World → Prop} {md : Region.Mode} {S : World → Prop} {z : Nat}
def wpAnyU (P : Program) (md : Region.Mode) (ops : Array Oper) (Q : Exit → Act → World → Prop) (S : World → Prop) (z : Nat) : Nat → Array Bool → Act → World → Prop
 | 0, listed, a, w => Region.ready md ops listed = [] ∧ Q .normal a w
 | fuel + 1, listed, a, w => (Region.ready md ops listed = [] → Q .normal a w) ∧
  ∀ i ∈ Region.ready md ops listed, wpOp P ops Q i (fun a' w' => ((i ≠ z ∧ listed.getD z true = false) → S w') ∧ wpAnyU P md ops Q S z fuel (listed.setIfInBounds i true) a' w') a w
theorem wpAny_of_U : ∀ (fuel : Nat) (listed : Array Bool) (a : Act) (w : World), wpAnyU P md ops Q S z fuel listed a w → wpAny P md ops Q fuel listed a w
 | 0, _, _, _, h => h
 | fuel + 1, _, _, _, h => ⟨h.1, fun i hi => wpOp_mono (fun a' w' h' => wpAny_of_U fuel _ a' w' h'.2) (h.2 i hi)⟩
inductive Dep (md : Region.Mode) (ops : Array Oper) (listed : Array Bool) : Nat → Nat → Prop
 | one {z i : Nat} {oz : Oper} {e : Edge} : ops[z]? = some oz → e ∈ oz.after → Region.binds md e = true → e.on = i → Dep md ops listed z i
 | more {z k i : Nat} {oz : Oper} {e : Edge} : ops[z]? = some oz → e ∈ oz.after → Region.binds md e = true → e.on = k → listed.getD k true = false → Dep md ops listed k i → Dep md ops listed z i
def viaB (md : Region.Mode) (ops : Array Oper) (listed : Array Bool) : Nat → List Nat → Nat → Bool
 | z, [], i => Region.waitsFor md ops z i
 | z, k :: l, i => Region.waitsFor md ops z k && (!(listed.getD k true) && viaB md ops listed k l i)
theorem viaB_dep {listed : Array Bool} : ∀ (l : List Nat) {z i : Nat}, viaB md ops listed z l i = true → Dep md ops listed z i
 | [], z, i, h => by
  obtain ⟨oz, hoz, e, he, hb, hon⟩ := Region.waitsFor_spec h
  exact .one hoz he hb hon
 | k :: l, z, i, h => by
  rw [viaB, Bool.and_eq_true, Bool.and_eq_true] at h
  obtain ⟨oz, hoz, e, he, hb, hon⟩ := Region.waitsFor_spec h.1
  exact .more hoz he hb hon (by simpa using h.2.1) (viaB_dep l h.2.2)
theorem ready_un {listed : Array Bool} {j : Nat} (h : j ∈ Region.ready md ops listed) : listed.getD j true = false := (mem_ready.1 h).1
theorem ready_dep {listed : Array Bool} {j k : Nat} {oj : Oper} {e : Edge} (h : j ∈ Region.ready md ops listed) (ho : ops[j]? = some oj) (he : e ∈ oj.after) (hb : Region.binds md e = true) (hk : e.on = k) (hun : listed.getD k true = false) : False := by
 obtain ⟨_, o', ho', hall⟩ := mem_ready.1 h
 rw [ho] at ho'
 cases ho'
 have g1 := hall e he hb
 rw [hk] at g1
 rcases Nat.lt_or_ge k listed.size with h' | h'
 ·simp [h'] at hun g1; rw [hun] at g1; cases g1
 ·simp [Array.getElem?_eq_none h'] at g1
theorem Dep.ne {listed : Array Bool} {z i j : Nat} (h : Dep md ops listed z i) (hi : i ∈ Region.ready md ops listed) (hj : j ∈ Region.ready md ops listed) : j ≠ z := by
 rintro rfl
 cases h with
 | one ho he hb hon => exact ready_dep hj ho he hb hon (ready_un hi)
 | more ho he hb hon hun _ => exact ready_dep hj ho he hb hon hun
theorem Dep.step {listed : Array Bool} {z i j : Nat} (h : Dep md ops listed z i) (hi : i ∈ Region.ready md ops listed) (hj : j ∈ Region.ready md ops listed) : Dep md ops (listed.setIfInBounds j true) z i := by
 induction h with
 | one ho he hb hon => exact .one ho he hb hon
 | @more z k i oz e ho he hb hon hun hd ih => exact .more ho he hb hon (by rw [getD_set_ne true (hd.ne hi hj)]; exact hun) (ih hi)
theorem wpAnyU_first {i : Nat} {oi : Oper} {v : Value} (hi : ops[i]? = some oi) (hsel : ∀ (j : Nat) (o : Oper) cs b, ops[j]? = some o → o.op ≠ .select cs b)
  (hQ : ∀ c a w, Q (.panic c) (a.put oi.dst v) w → Q (.panic c) a w) :
  ∀ (fuel : Nat) (listed : Array Bool) (a : Act) (w : World),
   (∀ j oj, ops[j]? = some oj → j ≠ i → listed.getD j true = false → (∀ e ∈ oj.after, Region.binds md e = true → e.on ≠ i) → oi.apart ops oj = true) →
   i ∈ Region.ready md ops listed → Dep md ops listed z i → YieldsIf P ops S oi v a → listed.getD z true = false → S w →
   wpAnyU P md ops Q S z fuel (listed.setIfInBounds i true) (a.put oi.dst v) w → wpAnyU P md ops Q S z (fuel + 1) listed a w := by
 intro fuel
 induction fuel with
 | zero =>
  intro listed a w _ hr _ hy hzl hS H
  refine ⟨fun h => (by rw [h] at hr; cases hr), fun j hj => ?_⟩
  by_cases hji : j = i
  ·subst hji; exact hy.wpOp hi hS ⟨fun _ => hS, H⟩
  ·have := ready_mono hj hji
   rw [H.1] at this
   cases this
 | succ fuel ih =>
  intro listed a w hfree hr hdep hy hzl hS H
  refine ⟨fun h => (by rw [h] at hr; cases hr), fun j hj => ?_⟩
  by_cases hji : j = i
  ·subst hji; exact hy.wpOp hi hS ⟨fun _ => hS, H⟩
  ·have h1 := H.2 j (ready_mono hj hji)
   obtain ⟨hjun, oj, hoj, hall⟩ := mem_ready.1 hj
   have hnot : ∀ e ∈ oj.after, Region.binds md e = true → e.on ≠ i := fun e he hb heq => by
    have g1 := hall e he hb
    have g0 := (mem_ready.1 hr).1
    rw [heq] at g1
    rcases Nat.lt_or_ge i listed.size with h' | h'
    ·simp [h'] at g0 g1; rw [g0] at g1; cases g1
    ·simp [Array.getElem?_eq_none h'] at g1
   have hjz : j ≠ z := hdep.ne hr hj
   have hiz : i ≠ z := hdep.ne hr hr
   have h2 := wpOp_putIf hoj (hfree j oj hoj hji hjun hnot) (fun cs b => hsel i oi cs b hi) (fun cs b => hsel j oj cs b hoj) hQ hy h1
   have hfree' : ∀ k ok, ops[k]? = some ok → k ≠ i → (listed.setIfInBounds j true).getD k true = false →
     (∀ e ∈ ok.after, Region.binds md e = true → e.on ≠ i) → oi.apart ops ok = true := fun k ok hk hki hun hno => by
    refine hfree k ok hk hki ?_ hno
    by_cases hjk : j = k
    ·subst hjk; exact hjun
    ·rw [getD_set_ne true hjk] at hun; exact hun
   have hzl1 : (listed.setIfInBounds i true).getD z true = false := by rw [getD_set_ne true hiz]; exact hzl
   have hzl2 : (listed.setIfInBounds j true).getD z true = false := by rw [getD_set_ne true hjz]; exact hzl
   refine wpOp_mono (fun a' w' h3 => ⟨fun _ => h3.2.1 ⟨hjz, hzl1⟩, ih (listed.setIfInBounds j true) a' w' hfree' (ready_mono hr (Ne.symm hji)) (hdep.step hr hj) h3.1 hzl2 (h3.2.1 ⟨hjz, hzl1⟩) ?_⟩) h2
   rw [Array.setIfInBounds_comm _ _ hji]
   exact h3.2.2
theorem wpAnyU_takeD {i : Nat} {d : Option Tmp} {op : Op} {ty : TypeId} {pos : String} {after : Array Edge} {gd : Option (Nat × Bool)} {v : Value} {fuel : Nat} {listed : Array Bool} {a : Act} {w : World} (hi : ops[i]? = some ⟨d, op, ty, pos, after, gd⟩)
  (hs : Region.noSelect ops = true) (hf : Region.free md ops listed i = true) (hr : (Region.ready md ops listed).contains i = true) (l : List Nat) (hw : viaB md ops listed z l i = true) (hzl : listed.getD z true = false)
  (hQ : ∀ c a w, Q (.panic c) (a.put d v) w → Q (.panic c) a w) (hy : YieldsIf P ops S ⟨d, op, ty, pos, after, gd⟩ v a) (hS : S w)
  (h : wpAnyU P md ops Q S z fuel (listed.setIfInBounds i true) (a.put d v) w) : wpAnyU P md ops Q S z (fuel + 1) listed a w :=
 wpAnyU_first hi (Region.noSelect_spec hs) hQ fuel listed a w (Region.free_spec hi hf) (by simpa using hr) (viaB_dep l hw) hy hzl hS h
theorem wpAnyU_oneD {i : Nat} {d : Option Tmp} {op : Op} {ty : TypeId} {pos : String} {after : Array Edge} {gd : Option (Nat × Bool)} {fuel : Nat} {listed : Array Bool} {a : Act} {w : World} (ho : ops[i]? = some ⟨d, op, ty, pos, after, gd⟩) (hr : Region.ready md ops listed = [i])
  (h : ∀ K' : Act → World → Prop, Shut (∀ a w, S w → (S w → wpAnyU P md ops Q S z fuel (listed.setIfInBounds i true) a w) → K' a w) → if Region.wanted ⟨d, op, ty, pos, after, gd⟩ (yielded ops a.tmps) = true then Oper.wp P ⟨d, op, ty, pos, after, gd⟩ a w K' Q else K' (a.put d undef) w) :
  wpAnyU P md ops Q S z (fuel + 1) listed a w := by
 refine ⟨fun h0 => (by rw [h0] at hr; cases hr), fun j hj => ?_⟩
 rw [hr, mS] at hj
 subst hj
 exact wpOp_step ho (fun K' hK => h K' (fun a w hS hW => hK a w ⟨fun _ => hS, hW hS⟩))
theorem wpAnyU_lastD {i : Nat} {d : Option Tmp} {op : Op} {ty : TypeId} {pos : String} {after : Array Edge} {gd : Option (Nat × Bool)} {fuel : Nat} {listed : Array Bool} {a : Act} {w : World} (ho : ops[i]? = some ⟨d, op, ty, pos, after, gd⟩) (hr : Region.ready md ops listed = [i]) (hz : (i != z && !(listed.getD z true)) = false)
  (h : ∀ K' : Act → World → Prop, Shut (∀ a w, wpAnyU P md ops Q S z fuel (listed.setIfInBounds i true) a w → K' a w) → if Region.wanted ⟨d, op, ty, pos, after, gd⟩ (yielded ops a.tmps) = true then Oper.wp P ⟨d, op, ty, pos, after, gd⟩ a w K' Q else K' (a.put d undef) w) :
  wpAnyU P md ops Q S z (fuel + 1) listed a w := by
 refine ⟨fun h0 => (by rw [h0] at hr; cases hr), fun j hj => ?_⟩
 rw [hr, mS] at hj
 subst hj
 refine wpOp_step ho (fun K' hK => h K' (fun a w hW => hK a w ⟨fun ⟨h1, h2⟩ => ?_, hW⟩))
 rw [h2] at hz
 simp at hz
 exact absurd hz h1
theorem wpAnyU_done {fuel : Nat} {listed : Array Bool} {a : Act} {w : World} (hr : Region.ready md ops listed = []) (h : Q .normal a w) : wpAnyU P md ops Q S z fuel listed a w := by
 cases fuel with
 | zero => exact ⟨hr, h⟩
 | succ n => exact ⟨fun _ => h, by rw [hr]; simp⟩
theorem wp_region_U {id : Nat} {a : Act} {w : World} (z : Nat) (hm : P.follows .mixedOrders = true) (hS : S w.drew)
  (h : S w.drew → wpAnyU P .any ops Q S z ops.size (Array.replicate ops.size false) a w.drew) : (Code.region id ops true).wp P Q a w :=
 wp_region_any hm (wpAny_of_U _ _ _ _ (h hS))
end
end Go.Proofs.YtiebpncpdbnelaaDoor
