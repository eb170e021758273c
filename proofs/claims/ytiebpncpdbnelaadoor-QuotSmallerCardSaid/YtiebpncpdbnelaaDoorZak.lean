/- Texts that stand one behind the other, in one file. -/
import Derived.Test.YtiebpncpdbnelaaDoorGr12
import Derived.Test.YtiebpncpdbnelaaDoorGr6
set_option maxHeartbeats 1000000
namespace Go.Proofs.YtiebpncpdbnelaaDoor
open Go.RowKit
def backG (n : Nat) (E : List (List Nd)) (goal : List Bool) : List Bool := reachG n (turnE E) (goalsG n goal)
theorem turnE_bd {K : Nat} {E : List (List Nd)} (hK : ∀ l ∈ E, l.length ≤ K) (h : E.length * K ≤ 1000000000) : ∀ l ∈ turnE E, l.length ≤ 1000000000 := by
 intro l hl
 obtain ⟨t, ht, rfl⟩ := List.getElem_of_mem hl
 have := turnTo_bd (n := E.length) hK E.length t
 have e : (turnTo E.length E E.length).getD t [] = (turnE E)[t] := by
  show (turnE E).getD t [] = _
  simp [List.getD, ht]
 rw [e] at this; omega
theorem goalsG_len (n : Nat) (goal : List Bool) : (goalsG n goal).length ≤ n := by
 rw [goalsG, List.length_map]
 exact Nat.le_trans (List.length_filter_le _ _) (by simp; omega)
section
variable (ai ae al : Option Addr) (ni ci ne ce nl cl : Nat)
theorem backP_any (G : Gph) (goal : List Bool) (A : Option Addr) (n c : Nat) (w : World) (B : Nat) (h : GrRd w B ai ni ci ae ne ce al nl cl G) (hs : Sl w B 1 A n c (goal.map .bool)) (hn : n = goal.length) (hB : B ≤ w.1.size) (hi : ni ≤ 1000000000) (he : ne ≤ 65536) (hl : nl ≤ 17592186044416) (hn2 : n ≤ 1000000000) (KE : Nat) (hr : ∀ l ∈ G.edges, l.length ≤ KE) (hKE : ne * KE ≤ 1000000000) (hK2 : KE ≤ 1000000000) :
  Calls Tryd.prog 89 #[.agg #[.slice ai ni ci, .slice ae ne ce, .slice al nl cl], .slice A n c] w (NewRow w 4 1 ne ((backG ne G.edges goal).map .bool) False) := by
 subst hn
 obtain ⟨w0, hw0, hb0, hz0, hx0, hx1, hx2⟩ := boxed3 w (.slice ai ni ci) (.slice ae ne ce) (.slice al nl cl) 67
 have HW0 := dh hw0
 have h' := h.below hb0 hB
 have hs' := hs.below hb0 hB
 have hzl : w.1.size < w0.1.size := by omega
 have L2 := h.lens.2.1
 have hr2 : ∀ l ∈ turnE G.edges, l.length ≤ 1000000000 := turnE_bd hr (by rw [← L2]; exact hKE)
 have HL2 := dh L2
 have hu : backG ne G.edges goal = reachG ne (turnE G.edges) (goalsG ne goal) := rfl
 rw [hu]
 clear hw0 hz0 h hs L2 hu
 go_enter Tryd.func89, Tryd.ntmps89
 go_wp2_with fail
 rw [← HW0.out]
 refine wp_region_held_drew (S := fun w' => w'.cell? ⟨w.1.size, 0, none⟩ = some (.slice ai ni ci) ∧ w'.cell? ⟨w.1.size, 1, none⟩ = some (.slice ae ne ce) ∧ w'.cell? ⟨w.1.size, 2, none⟩ = some (.slice al nl cl)) (by kernel_rfl) ⟨hx0, hx1, hx2⟩ (fun hS => ?_)
 refine tkH 0 ?_
 refine tkH 2 ?_
 refine tkH 3 ?_
 refine oneH 1 (fun K hK => ?_)
 go_simp
 refine ((turnP_any ai ae al ni ci ne ce nl cl G _ B (h'.below (Below.drew bR) (by omega)) (by show B ≤ w0.1.size; omega) hi (by omega) hl KE hr hKE hK2)).mono ?_
 rintro e wA ⟨bi, mi, di, be, me, de, bl, ml, dl, rfl, hG, hb', _⟩
 have hbA : Below w0.1.size w0 wA := below_undrew hb'
 have p0 := bC hbA hzl hx0
 have p1 := bC hbA hzl hx1
 have p2 := bC hbA hzl hx2
 have hzA := hbA.size
 clear hb'
 go_wp2_with fail
 refine hK.out _ _ ⟨p0, p1, p2⟩ (fun hS => ?_)
 clear hK
 refine oneH 4 (fun K hK => ?_)
 go_simp
 refine (goals_any ai ae al ni ci ne ce nl cl A _ c (min goal.length ne) rfl goal _ B rfl (hs'.below hbA (by omega)) (by omega) (by omega) (by omega)).mono ?_
 rintro e wB ⟨vg, rfl, hown, hb', _⟩
 obtain ⟨Ag, cg, rfl, hsg⟩ := own_sl hown
 have hbB : Below w0.1.size w0 wB := hbA.trans (hb'.mono (by omega))
 have q0 := bC hbB hzl hx0
 have q1 := bC hbB hzl hx1
 have q2 := bC hbB hzl hx2
 have hzB := hbB.size
 have hG2 := (hG.below hb' lR).up (show wA.1.size ≤ wB.1.size by have := hb'.size; omega)
 have hs2 := hsg
 clear hb'
 go_wp2_with fail
 refine hK.out _ _ ⟨q0, q1, q2⟩ (fun hS => ?_)
 clear hK
 refine oneH 5 (fun K hK => ?_)
 go_simp
 have hme : me = ne := by have h1 := hG2.lens.2.1; have h2 := HL2.out; simp only [turnE_len] at h1; omega
 refine (reachP_any bi be bl mi di me de ml dl ⟨G.init, turnE G.edges, G.labels⟩ (goalsG ne goal) Ag _ cg wB wB.1.size hG2 hs2 rfl lR (by rw [hme]; exact he) (by have := goalsG_len ne goal; omega) hr2).mono ?_
 rw [hme]
 rintro e wC ⟨v, rfl, hownC, hbC, hnil⟩
 go_wp2_with fail
 have s0 := bC hbC (by omega) q0
 have s1 := bC hbC (by omega) q1
 have s2 := bC hbC (by omega) q2
 have HNI := dh hnil
 clear hnil
 refine hK.out _ _ ⟨s0, s1, s2⟩ (fun hS => ?_)
 clear hK
 refine tkH 6 ?_
 refine wpAnyH_done (by kernel_rfl) ?_ _
 go_wp2
 go_ret
 exact ⟨v, rfl, own_base hownC (by omega), (hb0.trans (hbB.mono (by omega))).trans (hbC.mono (by omega)), HNI.out⟩
end
end Go.Proofs.YtiebpncpdbnelaaDoor
namespace Go.Proofs.YtiebpncpdbnelaaDoor
open Go.RowKit
theorem two_new (w : World) (x y : Obj) : Below w.1.size w ((w.alloc x).alloc y) ∧ ((w.alloc x).alloc y).1[w.1.size]? = some x ∧ ((w.alloc x).alloc y).1[w.1.size + 1]? = some y ∧ ((w.alloc x).alloc y).1.size = w.1.size + 2 := by
 refine ⟨(bR.alloc lR _).alloc (by simp) _, ?_, ?_, by simp⟩
 ·rw [Below.heap_alloc _ _ _ (by simp)]; exact heap_alloc_new w x
 ·have := heap_alloc_new (w.alloc x) y
  rwa [show (w.alloc x).1.size = w.1.size + 1 by simp] at this
section
variable (ai ae al : Option Addr) (ni ci ne ce nl cl : Nat)
end
end Go.Proofs.YtiebpncpdbnelaaDoor
namespace Go.Proofs.YtiebpncpdbnelaaDoor
def Arc (E : List (List Nd)) (i j : Nat) : Prop := i < E.length ∧ j < E.length ∧ (j : Int) ∈ tgts (E.getD i [])
def Runs (E : List (List Nd)) (asks : List (Nat → Bool)) (i : Nat) : Prop :=
 ∃ r : Nat → Nat, r 0 = i ∧ (∀ k, Arc E (r k) (r (k + 1))) ∧ ∀ p ∈ asks, ∀ k, ∃ m, k ≤ m ∧ p (r m) = true
def Core (E : List (List Nd)) (asks : List (Nat → Bool)) (v : Nat) : Prop :=
 (∃ j, Arc E v j ∧ Lead (Arc E) j v) ∧ ∀ p ∈ asks, ∃ u, Lead (Arc E) v u ∧ Lead (Arc E) u v ∧ p u = true
theorem all_late {N : Nat} {Q : Nat → Nat → Prop} (h : ∀ v, v < N → ∃ k, ∀ m, k ≤ m → Q v m) : ∃ K, ∀ v, v < N → ∀ m, K ≤ m → Q v m := by
 induction N with
 | zero => exact ⟨0, fun v hv => by omega⟩
 | succ N ih =>
  obtain ⟨K, hK⟩ := ih (fun v hv => h v (by omega))
  obtain ⟨k, hk⟩ := h N (by omega)
  refine ⟨max K k, fun v hv m hm => ?_⟩
  by_cases e : v = N
  ·subst e; exact hk m (by omega)
  ·exact hK v (by omega) m (by omega)
theorem often {N : Nat} {r : Nat → Nat} {P : Nat → Prop} (hr : ∀ k, r k < N) (hP : ∀ k, ∃ m, k ≤ m ∧ P m) : ∃ v, v < N ∧ ∀ k, ∃ m, k ≤ m ∧ P m ∧ r m = v := by
 apply Classical.byContradiction
 intro hn
 have h1 : ∀ v, v < N → ∃ k, ∀ m, k ≤ m → ¬ (P m ∧ r m = v) := by
  intro v hv
  apply Classical.byContradiction
  intro h2
  refine hn ⟨v, hv, fun k => ?_⟩
  apply Classical.byContradiction
  intro h3
  exact h2 ⟨k, fun m hm h4 => h3 ⟨m, hm, h4⟩⟩
 obtain ⟨K, hK⟩ := all_late h1
 obtain ⟨m, hm, hp⟩ := hP K
 exact hK (r m) (hr m) m hm ⟨hp, rfl⟩
theorem run_lead {E : List (List Nd)} {r : Nat → Nat} (h : ∀ k, Arc E (r k) (r (k + 1))) : ∀ d k, Lead (Arc E) (r k) (r (k + d))
 | 0, _k => .refl _
 | d + 1, k => (run_lead h d k).snoc (h (k + d))
theorem Runs.core {E : List (List Nd)} {asks : List (Nat → Bool)} {i : Nat} (h : Runs E asks i) : ∃ v, Lead (Arc E) i v ∧ Core E asks v := by
 obtain ⟨r, h0, h1, h2⟩ := h
 have hlt : ∀ k, r k < E.length := fun k => (h1 k).1
 have hto : ∀ k m, k ≤ m → Lead (Arc E) (r k) (r m) := fun k m hk => by
  have := run_lead h1 (m - k) k
  rwa [show k + (m - k) = m by omega] at this
 obtain ⟨v, hv, hvo⟩ := often (P := fun _ => True) hlt (fun k => ⟨k, lR, trivial⟩)
 obtain ⟨m0, _, _, hm0⟩ := hvo 0
 refine ⟨v, by rw [← h0, ← hm0]; exact hto 0 m0 (by omega), ?_, fun p hp => ?_⟩
 ·obtain ⟨m1, hm1, _, e1⟩ := hvo (m0 + 1)
  refine ⟨r (m0 + 1), by rw [← hm0]; exact h1 m0, ?_⟩
  have := hto (m0 + 1) m1 hm1
  rwa [e1] at this
 ·obtain ⟨u, hu, huo⟩ := often hlt (h2 p hp)
  obtain ⟨a, ha, hpa, e1⟩ := huo m0
  obtain ⟨b, hb, _, e2⟩ := hvo a
  have l1 := hto m0 a ha
  have l2 := hto a b hb
  rw [e1, hm0] at l1
  rw [e1, e2] at l2
  exact ⟨u, l1, l2, by rw [← e1]; exact hpa⟩
inductive NWay (R : Nat → Nat → Prop) : Nat → List Nat → Nat → Prop
 | nil (a : Nat) : NWay R a [] a
 | cons {a b c : Nat} {l : List Nat} : R a b → NWay R b l c → NWay R a (a :: l) c
theorem NWay.app {R : Nat → Nat → Prop} {a b c : Nat} {l m : List Nat} (h : NWay R a l b) (k : NWay R b m c) : NWay R a (l ++ m) c := by
 induction h with
 | nil a => exact k
 | cons r _ ih => exact .cons r (ih k)
theorem Lead.nway {R : Nat → Nat → Prop} {a b : Nat} (h : Lead R a b) : ∃ l, NWay R a l b := by
 induction h with
 | refl a => exact ⟨[], .nil a⟩
 | step r _ ih => obtain ⟨l, hl⟩ := ih; exact ⟨_, .cons r hl⟩
theorem NWay.head {R : Nat → Nat → Prop} {a b : Nat} {l : List Nat} (h : NWay R a l b) : (l ++ [b])[0]? = some a := by
 cases h <;> rfl
theorem NWay.at_ {R : Nat → Nat → Prop} {a b : Nat} {l : List Nat} (h : NWay R a l b) : ∀ (k : Nat) x y, l[k]? = some x → (l ++ [b])[k + 1]? = some y → R x y := by
 induction h with
 | nil a => intro k x y hx; simp at hx
 | cons r hw ih =>
  intro k x y hx hy
  cases k with
  | zero =>
   have h0 := hw.head
   simp at hx
   simp only [List.cons_append, List.getElem?_cons_succ] at hy
   rw [h0] at hy
   cases hy; subst hx; exact r
  | succ k =>
   simp only [List.cons_append, List.getElem?_cons_succ] at hx hy
   exact ih k x y hx hy
theorem core_loop {E : List (List Nd)} {v : Nat} {L0 : List Nat} (h0 : NWay (Arc E) v (v :: L0) v) : ∀ (asks : List (Nat → Bool)), (∀ p ∈ asks, ∃ u, Lead (Arc E) v u ∧ Lead (Arc E) u v ∧ p u = true) →
  ∃ L, NWay (Arc E) v (v :: L) v ∧ ∀ p ∈ asks, ∃ u ∈ v :: L, p u = true
 | [], _ => ⟨L0, h0, fun p hp => by cases hp⟩
 | p :: ps, h => by
  obtain ⟨L, h1, h2⟩ := core_loop h0 ps (fun q hq => h q (List.mem_cons_of_mem _ hq))
  obtain ⟨u, a, b, c⟩ := h p (List.mem_cons_self ..)
  obtain ⟨l1, w1⟩ := a.nway
  obtain ⟨l2, w2⟩ := b.nway
  refine ⟨L ++ (l1 ++ l2), h1.app (w1.app w2), fun q hq => ?_⟩
  rcases List.mem_cons.1 hq with rfl | hq
  ·have hu := List.mem_of_getElem? w2.head
   rcases List.mem_append.1 hu with hu | hu
   ·exact ⟨u, by simp [hu], c⟩
   ·rw [mS] at hu
    exact ⟨u, by simp [hu], c⟩
  ·obtain ⟨u', hu', hq'⟩ := h2 q hq
   refine ⟨u', ?_, hq'⟩
   rcases List.mem_cons.1 hu' with rfl | hu'
   ·exact List.mem_cons_self ..
   ·exact List.mem_cons_of_mem _ (List.mem_append_left _ hu')
theorem Core.runs {E : List (List Nd)} {asks : List (Nat → Bool)} {i v : Nat} (h : Core E asks v) (hl : Lead (Arc E) i v) : Runs E asks i := by
 obtain ⟨⟨j, hj, hjv⟩, h2⟩ := h
 obtain ⟨l0, w0⟩ := hjv.nway
 obtain ⟨L0, hL, hm⟩ := core_loop (.cons hj w0) asks h2
 obtain ⟨L, hLe⟩ := xR (v :: L0)
 have hn : 0 < L.length := by rw [hLe]; simp
 rw [← hLe] at hL hm
 obtain ⟨S, hS⟩ := hl.nway
 have hL0 : L.getD 0 0 = v := by rw [hLe]; rfl
 have hSat := hS.at_
 have hLat := hL.at_
 have hLs : ∀ t, t < L.length → Arc E (L.getD t 0) (L.getD ((t + 1) % L.length) 0) := by
  intro t ht
  by_cases e : t + 1 < L.length
  ·rw [Nat.mod_eq_of_lt e]
   refine hLat t _ _ (by simp [List.getD, ht]) ?_
   rw [gC e]; simp [List.getD, e]
  ·have e2 : t + 1 = L.length := by omega
   rw [e2, Nat.mod_self, hL0]
   refine hLat t _ _ (by simp [List.getD, ht]) ?_
   rw [e2, gR lR]; simp
 refine ⟨fun k => if k < S.length then S.getD k 0 else L.getD ((k - S.length) % L.length) 0, ?_, fun k => ?_, fun p hp k => ?_⟩
 ·have h0 := hS.head
  by_cases e : 0 < S.length
  ·simp only [if_pos e]
   rw [gC e] at h0
   simp [List.getD, h0]
  ·simp only [if_neg e]
   have : S = [] := List.eq_nil_of_length_eq_zero (by omega)
   subst this
   simp at h0
   simp only [List.length_nil, Nat.sub_self, Nat.zero_mod]
   rw [hL0, h0]
 ·dsimp only
  by_cases e : k < S.length
  ·rw [if_pos e]
   refine hSat k _ _ (by simp [List.getD, e]) ?_
   by_cases e2 : k + 1 < S.length
   ·rw [if_pos e2, gC e2]; simp [List.getD, e2]
   ·have e3 : k + 1 = S.length := by omega
    rw [if_neg e2, e3, gR lR, Nat.sub_self, Nat.zero_mod, hL0]; rfl
  ·rw [if_neg e, if_neg (by omega), show k + 1 - S.length = (k - S.length) + 1 by omega]
   have h1 := hLs ((k - S.length) % L.length) (Nat.mod_lt _ hn)
   rwa [Nat.mod_add_mod] at h1
 ·obtain ⟨u, hu, hpu⟩ := hm p hp
  obtain ⟨t, ht⟩ := List.getElem?_of_mem hu
  have htl := (gB.1 ht).1
  have hk : k ≤ L.length * k := Nat.le_mul_of_pos_left k hn
  refine ⟨S.length + (L.length * k + t), by omega, ?_⟩
  dsimp only
  rw [if_neg (by omega), show S.length + (L.length * k + t) - S.length = L.length * k + t by omega, Nat.mul_add_mod, Nat.mod_eq_of_lt htl]
  simp only [List.getD, ht, Option.getD_some]; exact hpu
theorem runs_iff {E : List (List Nd)} {asks : List (Nat → Bool)} {i : Nat} : Runs E asks i ↔ ∃ v, Lead (Arc E) i v ∧ Core E asks v :=
 ⟨Runs.core, fun ⟨_, h1, h2⟩ => h2.runs h1⟩
noncomputable def marksP (n : Nat) (P : Nat → Prop) : List Bool := (List.range n).map fun i => @decide (P i) (Classical.propDecidable _)
theorem marksP_len (n : Nat) (P : Nat → Prop) : (marksP n P).length = n := by simp [marksP]
theorem marksP_at {n : Nat} {P : Nat → Prop} {i : Nat} (hi : i < n) : (marksP n P).getD i false = true ↔ P i := by
 have : (marksP n P).getD i false = @decide (P i) (Classical.propDecidable _) := by simp [marksP, List.getD, hi]
 rw [this]
 exact @decide_eq_true_iff (P i) (Classical.propDecidable _)
end Go.Proofs.YtiebpncpdbnelaaDoor
