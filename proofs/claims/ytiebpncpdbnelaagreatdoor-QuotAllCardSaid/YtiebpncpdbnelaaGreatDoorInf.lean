/- Runs that go on for ever and meet sets again and again, and the greatest fixpoint: plain. -/
import Derived.Test.YtiebpncpdbnelaaGreatDoorZac
namespace Go.Proofs.YtiebpncpdbnelaaGreatDoor
def Arc (E : List (List Nd)) (i j : Nat) : Prop := i < E.length ∧ j < E.length ∧ (j : Int) ∈ tgts (E.getD i [])
def Runs (E : List (List Nd)) (asks : List (Nat → Bool)) (i : Nat) : Prop :=
 ∃ r : Nat → Nat, r 0 = i ∧ (∀ k, Arc E (r k) (r (k + 1))) ∧ ∀ p ∈ asks, ∀ k, ∃ m, k ≤ m ∧ p (r m) = true
def Core (E : List (List Nd)) (asks : List (Nat → Bool)) (v : Nat) : Prop :=
 (∃ j, Arc E v j ∧ Lead (Arc E) j v) ∧ ∀ p ∈ asks, ∃ u, Lead (Arc E) v u ∧ Lead (Arc E) u v ∧ p u = true
theorem all_late {N : Nat} {Q : Nat → Nat → Prop} (h : ∀ v, v < N → ∃ k, ∀ m, k ≤ m → Q v m) : ∃ K, ∀ v, v < N → ∀ m, K ≤ m → Q v m := by
 induction N with
 | zero => exact ⟨0, fun v hv => by omega⟩
 | succ N ih =>
  obtain ⟨K, hK⟩ := ih (fun v hv => h v (by omega))
  obtain ⟨k, hk⟩ := h N (by omega)
  refine ⟨max K k, fun v hv m hm => ?_⟩
  by_cases e : v = N
  ·subst e; exact hk m (by omega)
  ·exact hK v (by omega) m (by omega)
theorem often {N : Nat} {r : Nat → Nat} {P : Nat → Prop} (hr : ∀ k, r k < N) (hP : ∀ k, ∃ m, k ≤ m ∧ P m) : ∃ v, v < N ∧ ∀ k, ∃ m, k ≤ m ∧ P m ∧ r m = v := by
 apply Classical.byContradiction
 intro hn
 have h1 : ∀ v, v < N → ∃ k, ∀ m, k ≤ m → ¬ (P m ∧ r m = v) := by
  intro v hv
  apply Classical.byContradiction
  intro h2
  refine hn ⟨v, hv, fun k => ?_⟩
  apply Classical.byContradiction
  intro h3
  exact h2 ⟨k, fun m hm h4 => h3 ⟨m, hm, h4⟩⟩
 obtain ⟨K, hK⟩ := all_late h1
 obtain ⟨m, hm, hp⟩ := hP K
 exact hK (r m) (hr m) m hm ⟨hp, rfl⟩
theorem run_lead {E : List (List Nd)} {r : Nat → Nat} (h : ∀ k, Arc E (r k) (r (k + 1))) : ∀ d k, Lead (Arc E) (r k) (r (k + d))
 | 0, _k => .refl _
 | d + 1, k => (run_lead h d k).snoc (h (k + d))
theorem Runs.core {E : List (List Nd)} {asks : List (Nat → Bool)} {i : Nat} (h : Runs E asks i) : ∃ v, Lead (Arc E) i v ∧ Core E asks v := by
 obtain ⟨r, h0, h1, h2⟩ := h
 have hlt : ∀ k, r k < E.length := fun k => (h1 k).1
 have hto : ∀ k m, k ≤ m → Lead (Arc E) (r k) (r m) := fun k m hk => by
  have := run_lead h1 (m - k) k
  rwa [show k + (m - k) = m by omega] at this
 obtain ⟨v, hv, hvo⟩ := often (P := fun _ => True) hlt (fun k => ⟨k, lR, trivial⟩)
 obtain ⟨m0, _, _, hm0⟩ := hvo 0
 refine ⟨v, by rw [← h0, ← hm0]; exact hto 0 m0 (by omega), ?_, fun p hp => ?_⟩
 ·obtain ⟨m1, hm1, _, e1⟩ := hvo (m0 + 1)
  refine ⟨r (m0 + 1), by rw [← hm0]; exact h1 m0, ?_⟩
  have := hto (m0 + 1) m1 hm1
  rwa [e1] at this
 ·obtain ⟨u, hu, huo⟩ := often hlt (h2 p hp)
  obtain ⟨a, ha, hpa, e1⟩ := huo m0
  obtain ⟨b, hb, _, e2⟩ := hvo a
  have l1 := hto m0 a ha
  have l2 := hto a b hb
  rw [e1, hm0] at l1
  rw [e1, e2] at l2
  exact ⟨u, l1, l2, by rw [← e1]; exact hpa⟩
inductive NWay (R : Nat → Nat → Prop) : Nat → List Nat → Nat → Prop
 | nil (a : Nat) : NWay R a [] a
 | cons {a b c : Nat} {l : List Nat} : R a b → NWay R b l c → NWay R a (a :: l) c
theorem NWay.app {R : Nat → Nat → Prop} {a b c : Nat} {l m : List Nat} (h : NWay R a l b) (k : NWay R b m c) : NWay R a (l ++ m) c := by
 induction h with
 | nil a => exact k
 | cons r _ ih => exact .cons r (ih k)
theorem Lead.nway {R : Nat → Nat → Prop} {a b : Nat} (h : Lead R a b) : ∃ l, NWay R a l b := by
 induction h with
 | refl a => exact ⟨[], .nil a⟩
 | step r _ ih => obtain ⟨l, hl⟩ := ih; exact ⟨_, .cons r hl⟩
theorem NWay.head {R : Nat → Nat → Prop} {a b : Nat} {l : List Nat} (h : NWay R a l b) : (l ++ [b])[0]? = some a := by
 cases h <;> rfl
theorem NWay.at_ {R : Nat → Nat → Prop} {a b : Nat} {l : List Nat} (h : NWay R a l b) : ∀ (k : Nat) x y, l[k]? = some x → (l ++ [b])[k + 1]? = some y → R x y := by
 induction h with
 | nil a => intro k x y hx; simp at hx
 | cons r hw ih =>
  intro k x y hx hy
  cases k with
  | zero =>
   have h0 := hw.head
   simp at hx
   simp only [List.cons_append, List.getElem?_cons_succ] at hy
   rw [h0] at hy
   cases hy; subst hx; exact r
  | succ k =>
   simp only [List.cons_append, List.getElem?_cons_succ] at hx hy
   exact ih k x y hx hy
theorem core_loop {E : List (List Nd)} {v : Nat} {L0 : List Nat} (h0 : NWay (Arc E) v (v :: L0) v) : ∀ (asks : List (Nat → Bool)), (∀ p ∈ asks, ∃ u, Lead (Arc E) v u ∧ Lead (Arc E) u v ∧ p u = true) →
  ∃ L, NWay (Arc E) v (v :: L) v ∧ ∀ p ∈ asks, ∃ u ∈ v :: L, p u = true
 | [], _ => ⟨L0, h0, fun p hp => by cases hp⟩
 | p :: ps, h => by
  obtain ⟨L, h1, h2⟩ := core_loop h0 ps (fun q hq => h q (List.mem_cons_of_mem _ hq))
  obtain ⟨u, a, b, c⟩ := h p (List.mem_cons_self ..)
  obtain ⟨l1, w1⟩ := a.nway
  obtain ⟨l2, w2⟩ := b.nway
  refine ⟨L ++ (l1 ++ l2), h1.app (w1.app w2), fun q hq => ?_⟩
  rcases List.mem_cons.1 hq with rfl | hq
  ·have hu := List.mem_of_getElem? w2.head
   rcases List.mem_append.1 hu with hu | hu
   ·exact ⟨u, by simp [hu], c⟩
   ·rw [mS] at hu
    exact ⟨u, by simp [hu], c⟩
  ·obtain ⟨u', hu', hq'⟩ := h2 q hq
   refine ⟨u', ?_, hq'⟩
   rcases List.mem_cons.1 hu' with rfl | hu'
   ·exact List.mem_cons_self ..
   ·exact List.mem_cons_of_mem _ (List.mem_append_left _ hu')
theorem Core.runs {E : List (List Nd)} {asks : List (Nat → Bool)} {i v : Nat} (h : Core E asks v) (hl : Lead (Arc E) i v) : Runs E asks i := by
 obtain ⟨⟨j, hj, hjv⟩, h2⟩ := h
 obtain ⟨l0, w0⟩ := hjv.nway
 obtain ⟨L0, hL, hm⟩ := core_loop (.cons hj w0) asks h2
 obtain ⟨L, hLe⟩ := xR (v :: L0)
 have hn : 0 < L.length := by rw [hLe]; simp
 rw [← hLe] at hL hm
 obtain ⟨S, hS⟩ := hl.nway
 have hL0 : L.getD 0 0 = v := by rw [hLe]; rfl
 have hSat := hS.at_
 have hLat := hL.at_
 have hLs : ∀ t, t < L.length → Arc E (L.getD t 0) (L.getD ((t + 1) % L.length) 0) := by
  intro t ht
  by_cases e : t + 1 < L.length
  ·rw [Nat.mod_eq_of_lt e]
   refine hLat t _ _ (by simp [List.getD, ht]) ?_
   rw [gC e]; simp [List.getD, e]
  ·have e2 : t + 1 = L.length := by omega
   rw [e2, Nat.mod_self, hL0]
   refine hLat t _ _ (by simp [List.getD, ht]) ?_
   rw [e2, gR lR]; simp
 refine ⟨fun k => if k < S.length then S.getD k 0 else L.getD ((k - S.length) % L.length) 0, ?_, fun k => ?_, fun p hp k => ?_⟩
 ·have h0 := hS.head
  by_cases e : 0 < S.length
  ·simp only [if_pos e]
   rw [gC e] at h0
   simp [List.getD, h0]
  ·simp only [if_neg e]
   have : S = [] := List.eq_nil_of_length_eq_zero (by omega)
   subst this
   simp at h0
   simp only [List.length_nil, Nat.sub_self, Nat.zero_mod]
   rw [hL0, h0]
 ·dsimp only
  by_cases e : k < S.length
  ·rw [if_pos e]
   refine hSat k _ _ (by simp [List.getD, e]) ?_
   by_cases e2 : k + 1 < S.length
   ·rw [if_pos e2, gC e2]; simp [List.getD, e2]
   ·have e3 : k + 1 = S.length := by omega
    rw [if_neg e2, e3, gR lR, Nat.sub_self, Nat.zero_mod, hL0]; rfl
  ·rw [if_neg e, if_neg (by omega), show k + 1 - S.length = (k - S.length) + 1 by omega]
   have h1 := hLs ((k - S.length) % L.length) (Nat.mod_lt _ hn)
   rwa [Nat.mod_add_mod] at h1
 ·obtain ⟨u, hu, hpu⟩ := hm p hp
  obtain ⟨t, ht⟩ := List.getElem?_of_mem hu
  have htl := (gB.1 ht).1
  have hk : k ≤ L.length * k := Nat.le_mul_of_pos_left k hn
  refine ⟨S.length + (L.length * k + t), by omega, ?_⟩
  dsimp only
  rw [if_neg (by omega), show S.length + (L.length * k + t) - S.length = L.length * k + t by omega, Nat.mul_add_mod, Nat.mod_eq_of_lt htl]
  simp only [List.getD, ht, Option.getD_some]; exact hpu
theorem runs_iff {E : List (List Nd)} {asks : List (Nat → Bool)} {i : Nat} : Runs E asks i ↔ ∃ v, Lead (Arc E) i v ∧ Core E asks v :=
 ⟨Runs.core, fun ⟨_, h1, h2⟩ => h2.runs h1⟩
theorem Runs.shift {E : List (List Nd)} {asks : List (Nat → Bool)} {r : Nat → Nat} (h1 : ∀ k, Arc E (r k) (r (k + 1))) (h2 : ∀ p ∈ asks, ∀ k, ∃ m, k ≤ m ∧ p (r m) = true) (k : Nat) : Runs E asks (r k) :=
 ⟨fun m => r (k + m), rfl, fun m => h1 (k + m), fun p hp n => by
  obtain ⟨m, a, b⟩ := h2 p hp (k + n)
  exact ⟨m - k, by omega, by dsimp only; rwa [show k + (m - k) = m by omega]⟩⟩
noncomputable def marksP (n : Nat) (P : Nat → Prop) : List Bool := (List.range n).map fun i => @decide (P i) (Classical.propDecidable _)
theorem marksP_len (n : Nat) (P : Nat → Prop) : (marksP n P).length = n := by simp [marksP]
theorem marksP_at {n : Nat} {P : Nat → Prop} {i : Nat} (hi : i < n) : (marksP n P).getD i false = true ↔ P i := by
 have : (marksP n P).getD i false = @decide (P i) (Classical.propDecidable _) := by simp [marksP, List.getD, hi]
 rw [this]
 exact @decide_eq_true_iff (P i) (Classical.propDecidable _)
theorem bottom {N : Nat} {R : Nat → Nat → Prop} (hR : ∀ a b, R a b → b < N) : ∀ (n i : Nat), (marksP N (Lead R i)).countP (fun b => b) ≤ n → i < N → ∃ v, v < N ∧ Lead R i v ∧ ∀ u, Lead R v u → Lead R u v
 | n, i, hn, hi => by
  by_cases hb : ∀ u, Lead R i u → Lead R u i
  ·exact ⟨i, hi, .refl _, hb⟩
  ·obtain ⟨u, hu⟩ : ∃ u, ¬ (Lead R i u → Lead R u i) := Classical.not_forall.1 hb
   have hiu : Lead R i u := Classical.byContradiction fun h => hu (fun h' => absurd h' h)
   have hui : ¬ Lead R u i := fun h => hu (fun _ => h)
   have huN : u < N := by
    have : ∀ {a b}, Lead R a b → a < N → b < N := by
     intro a b h
     induction h with
     | refl a => exact fun h => h
     | step r _ ih => exact fun _ => ih (hR _ _ r)
    exact this hiu hi
   have hlt : (marksP N (Lead R u)).countP (fun b => b) < (marksP N (Lead R i)).countP (fun b => b) := by
    unfold marksP
    rw [List.countP_map, List.countP_map]
    have hsub : ∀ x, @decide (Lead R u x) (Classical.propDecidable _) = true → @decide (Lead R i x) (Classical.propDecidable _) = true := fun x h =>
     (@decide_eq_true_iff _ (Classical.propDecidable _)).2 (hiu.trans ((@decide_eq_true_iff _ (Classical.propDecidable _)).1 h))
    have key : ∀ l : List Nat, i ∈ l → l.countP ((fun b => b) ∘ fun x => @decide (Lead R u x) (Classical.propDecidable _)) < l.countP ((fun b => b) ∘ fun x => @decide (Lead R i x) (Classical.propDecidable _)) := by
     intro l
     induction l with
     | nil => intro h; cases h
     | cons x l ih =>
      intro h
      have hle : ∀ l : List Nat, l.countP ((fun b => b) ∘ fun x => @decide (Lead R u x) (Classical.propDecidable _)) ≤ l.countP ((fun b => b) ∘ fun x => @decide (Lead R i x) (Classical.propDecidable _)) := fun l => List.countP_mono_left (fun x _ hx => hsub x hx)
      rw [List.countP_cons, List.countP_cons]
      by_cases e : x = i
      ·subst e
       have h1 : ((fun b => b) ∘ fun y => @decide (Lead R u y) (Classical.propDecidable _)) x = false := @decide_eq_false _ (Classical.propDecidable _) hui
       have h2 : ((fun b => b) ∘ fun y => @decide (Lead R x y) (Classical.propDecidable _)) x = true := @decide_eq_true _ (Classical.propDecidable _) (.refl x)
       rw [h1, h2]
       have := hle l
       simp only [Bool.false_eq_true, if_false, if_true]
       omega
      ·have hx : i ∈ l := by rcases List.mem_cons.1 h with h | h; exact absurd h.symm e; exact h
       have h1 := ih hx
       by_cases c : ((fun b => b) ∘ fun y => @decide (Lead R u y) (Classical.propDecidable _)) x = true
       ·have c2 : ((fun b => b) ∘ fun y => @decide (Lead R i y) (Classical.propDecidable _)) x = true := hsub x c
        rw [if_pos c, if_pos c2]; omega
       ·rw [if_neg c]; split <;> omega
    exact key (List.range N) (List.mem_range.2 hi)
   obtain ⟨v, a, b, c⟩ := bottom hR (n - 1) u (by omega) huN
   exact ⟨v, a, hiu.trans b, c⟩
termination_by n => n
decreasing_by omega
theorem gfp_runs {E : List (List Nd)} {asks : List (Nat → Bool)} {z : List Bool} (h : Gfp E asks z) (hne : asks ≠ []) {i : Nat} : z.getD i false = true ↔ Runs E asks i := by
 obtain ⟨hz, hf, hg⟩ := h
 have hEd : ∀ {y : List Bool} {a b}, y.length = E.length → Ed E y a b → Arc E a b := fun hy h => ⟨h.1, by have := h.2.1; omega, h.2.2.2.2⟩
 constructor
 ·intro hi
  have hiN := getD_lt hi
  obtain ⟨v, hv, hiv, hb⟩ := bottom (N := E.length) (R := Ed E z) (fun a b h => by have := h.2.1; omega) _ i lR (by omega)
  have hvz : z.getD v false = true := by
   have : ∀ {a b}, Lead (Ed E z) a b → z.getD a false = true → z.getD b false = true := by
    intro a b h
    induction h with
    | refl a => exact fun h => h
    | step r _ ih => exact fun _ => ih r.2.2.2.1
   exact this hiv hi
  have hmono : ∀ {a b}, Lead (Ed E z) a b → Lead (Arc E) a b := fun h => h.mono (fun a b r => hEd hz r)
  have hstep : ∀ p ∈ asks, ∃ j k, Ed E z v j ∧ Lead (Ed E z) j k ∧ p k = true := fun p hp => by
   obtain ⟨j, k, a, b, _, _, e⟩ := (step_iff hz (by omega)).1 (hf p hp v hvz)
   exact ⟨j, k, a, b, e⟩
  refine Core.runs (v := v) ⟨?_, fun p hp => ?_⟩ (hmono hiv)
  ·obtain ⟨p, hp⟩ := List.exists_mem_of_ne_nil _ hne
   obtain ⟨j, k, a, b, _⟩ := hstep p hp
   exact ⟨j, hEd hz a, hmono (hb j (.step a (.refl _)))⟩
  ·obtain ⟨j, k, a, b, e⟩ := hstep p hp
   exact ⟨k, hmono (.step a b), hmono (hb k (.step a b)), e⟩
 ·intro hr
  have hiN : i < E.length := by obtain ⟨r, rfl, h1, _⟩ := hr; exact (h1 0).1
  have hyl := marksP_len E.length (Runs E asks)
  refine hg (marksP E.length (Runs E asks)) hyl ?_ i ((marksP_at hiN).2 hr)
  intro p hp k hk
  have hkN : k < E.length := by have := getD_lt hk; omega
  obtain ⟨r, rfl, h1, h2⟩ := (marksP_at hkN).1 hk
  have hin : ∀ m, (marksP E.length (Runs E asks)).getD (r m) false = true := fun m => (marksP_at (h1 m).1).2 (Runs.shift h1 h2 m)
  have hed : ∀ m, Ed E (marksP E.length (Runs E asks)) (r m) (r (m + 1)) := fun m => ⟨(h1 m).1, by rw [hyl]; exact (h1 m).2.1, hin m, hin (m + 1), (h1 m).2.2⟩
  obtain ⟨m, hm, hpm⟩ := h2 p hp 1
  have hl : ∀ d, Lead (Ed E (marksP E.length (Runs E asks))) (r 1) (r (1 + d)) := by
   intro d
   induction d with
   | zero => exact .refl _
   | succ d ih => exact ih.snoc (hed (1 + d))
  refine (step_iff hyl (by omega)).2 ⟨r 1, r m, hed 0, by have := hl (m - 1); rwa [show 1 + (m - 1) = m by omega] at this, by rw [hyl]; exact (h1 m).1, hin m, hpm⟩
end Go.Proofs.YtiebpncpdbnelaaGreatDoor
