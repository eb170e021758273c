/- Texts that stand one behind the other, in one file. -/
import Derived.Test.YtiebpncpdbnelaaDoorAu8
namespace Go.Proofs.YtiebpncpdbnelaaDoor
open Go.RowKit
theorem open_nd {a : Aut} (hA : a.Ok) : ∀ r ∈ openE a, ∀ e ∈ r, isNd (openE a).length e.op = true := by
 intro r hr e he
 rw [openE_len]
 obtain ⟨q, hq, rfl⟩ := List.mem_map.1 hr
 obtain ⟨t, ht, rfl⟩ := List.mem_map.1 he
 exact hA.2 _ (at_mem (List.mem_range.1 hq)) t (List.mem_filter.1 ht).1
theorem open_row {a : Aut} {K : Nat} (hK : ∀ x ∈ a.nodes, x.to.length ≤ K) : ∀ r ∈ openE a, r.length ≤ K := by
 intro r hr
 obtain ⟨q, hq, rfl⟩ := List.mem_map.1 hr
 unfold openR
 rw [List.length_map]
 exact Nat.le_trans (List.length_filter_le _ _) (hK _ (at_mem (List.mem_range.1 hq)))
end Go.Proofs.YtiebpncpdbnelaaDoor
namespace Go.Proofs.YtiebpncpdbnelaaDoor
def aloneB (x y : ANd) (s : Nat) : Bool := decide (y.need &&& x.need = y.need) && decide (y.ban &&& x.ban = y.ban) && decide (x.inn &&& y.inn &&& allB s = x.inn &&& allB s)
theorem sub_bits {x y : Nat} : y &&& x = y ↔ ∀ b, y.testBit b = true → x.testBit b = true := by
 constructor
 ·intro h b hb
  have := congrArg (fun z => z.testBit b) h
  simp only [Nat.testBit_and, hb, Bool.true_and] at this
  exact this
 ·intro h
  refine Nat.eq_of_testBit_eq (fun b => ?_)
  rw [Nat.testBit_and]
  cases hb : y.testBit b
  ·rfl
  ·rw [h b hb]; rfl
theorem in_bits {x y s : Nat} : x &&& y &&& allB s = x &&& allB s ↔ ∀ b, b < s → x.testBit b = true → y.testBit b = true := by
 constructor
 ·intro h b hs hb
  have := congrArg (fun z => z.testBit b) h
  simp only [Nat.testBit_and, allB_bit, hb, decide_eq_true hs, Bool.true_and, Bool.and_true] at this
  exact this
 ·intro h
  refine Nat.eq_of_testBit_eq (fun b => ?_)
  simp only [Nat.testBit_and, allB_bit]
  by_cases hs : b < s
  ·cases hb : x.testBit b
   ·simp
   ·simp [h b hs hb]
  ·simp [hs]
theorem alone_iff {x y : ANd} {s : Nat} : aloneB x y s = true ↔ (∀ b, y.need.testBit b = true → x.need.testBit b = true) ∧ (∀ b, y.ban.testBit b = true → x.ban.testBit b = true) ∧ ∀ b, b < s → x.inn.testBit b = true → y.inn.testBit b = true := by
 unfold aloneB
 rw [Bool.and_eq_true, Bool.and_eq_true, decide_eq_true_eq, decide_eq_true_eq, decide_eq_true_eq, sub_bits, sub_bits, in_bits, and_assoc]
theorem alone_refl (x : ANd) (s : Nat) : aloneB x x s = true := alone_iff.2 ⟨fun _ h => h, fun _ h => h, fun _ _ h => h⟩
theorem alone_trans {x y z : ANd} {s : Nat} (h : aloneB x y s = true) (k : aloneB y z s = true) : aloneB x z s = true := by
 obtain ⟨h1, h2, h3⟩ := alone_iff.1 h
 obtain ⟨k1, k2, k3⟩ := alone_iff.1 k
 exact alone_iff.2 ⟨fun b hb => h1 b (k1 b hb), fun b hb => h2 b (k2 b hb), fun b hs hb => k3 b hs (h3 b hs hb)⟩
structure SimR (a : Aut) (R : Nat → Nat → Prop) : Prop where
 lt : ∀ i k, R i k → i < a.nodes.length ∧ k < a.nodes.length
 one : ∀ i k, R i k → aloneB (a.at i) (a.at k) a.sets.toNat = true
 go : ∀ i k, R i k → ∀ t : Nat, (t : Int) ∈ (a.at i).to → ∃ u : Nat, (u : Int) ∈ (a.at k).to ∧ R t u
def Sim (a : Aut) (i k : Nat) : Prop := ∃ R, SimR a R ∧ R i k
theorem sim_sim (a : Aut) : SimR a (Sim a) :=
 ⟨fun i k ⟨_, h, hr⟩ => h.lt i k hr, fun i k ⟨_, h, hr⟩ => h.one i k hr, fun i k ⟨R, h, hr⟩ t ht => by
  obtain ⟨u, hu, hr2⟩ := h.go i k hr t ht
  exact ⟨u, hu, R, h, hr2⟩⟩
theorem Sim.refl {a : Aut} (hA : a.Ok) {i : Nat} (hi : i < a.nodes.length) : Sim a i i := by
 refine ⟨fun i k => i = k ∧ i < a.nodes.length, ⟨fun i k h => ⟨h.2, h.1 ▸ h.2⟩, fun i k h => by rw [h.1]; exact alone_refl _ _, fun i k h t ht => ?_⟩, rfl, hi⟩
 obtain ⟨rfl, h⟩ := h
 obtain ⟨t', e, ht'⟩ := hA.to h ht
 exact ⟨t, ht, rfl, by omega⟩
theorem Sim.trans {a : Aut} {i k j : Nat} (h : Sim a i k) (g : Sim a k j) : Sim a i j := by
 have s := sim_sim a
 refine ⟨fun i j => ∃ k, Sim a i k ∧ Sim a k j, ⟨fun i j ⟨k, h, g⟩ => ⟨(s.lt i k h).1, (s.lt k j g).2⟩, fun i j ⟨k, h, g⟩ => alone_trans (s.one i k h) (s.one k j g), fun i j ⟨k, h, g⟩ t ht => ?_⟩, k, h, g⟩
 obtain ⟨u, hu, h1⟩ := s.go i k h t ht
 obtain ⟨v, hv, h2⟩ := s.go k j g u hu
 exact ⟨v, hv, u, h1, h2⟩
def firstB (p : Nat → Bool) : Nat → Nat
 | 0 => 0
 | n + 1 => if firstB p n < n then firstB p n else if p n = true then n else n + 1
theorem firstB_spec (p : Nat → Bool) : ∀ n, firstB p n ≤ n ∧ (∀ k, k < firstB p n → p k = false) ∧ (firstB p n < n → p (firstB p n) = true)
 | 0 => ⟨lR, fun k hk => absurd hk (Nat.not_lt_zero _), fun h => absurd h (Nat.lt_irrefl _)⟩
 | n + 1 => by
  obtain ⟨h1, h2, h3⟩ := firstB_spec p n
  unfold firstB
  by_cases hl : firstB p n < n
  ·rw [if_pos hl]
   exact ⟨by omega, h2, fun _ => h3 hl⟩
  ·rw [if_neg hl]
   have e : firstB p n = n := by omega
   rw [e] at h2
   by_cases hp : p n = true
   ·rw [if_pos hp]
    exact ⟨by omega, h2, fun _ => hp⟩
   ·rw [if_neg hp]
    refine ⟨lR, fun k hk => ?_, fun h => absurd h (Nat.lt_irrefl _)⟩
    by_cases hkn : k = n
    ·subst hkn; simpa using hp
    ·exact h2 k (by omega)
theorem firstB_lt {p : Nat → Bool} {n k : Nat} (_hk : k < n) (hp : p k = true) : firstB p n ≤ k := by
 obtain ⟨_, h2, _⟩ := firstB_spec p n
 refine Nat.le_of_not_lt (fun h => ?_)
 rw [h2 k h] at hp; cases hp
theorem firstB_uniq {p : Nat → Bool} {n k : Nat} (hk : k ≤ n) (h1 : ∀ j, j < k → p j = false) (h2 : k < n → p k = true) : firstB p n = k := by
 obtain ⟨a1, a2, a3⟩ := firstB_spec p n
 rcases Nat.lt_trichotomy (firstB p n) k with h | h | h
 ·have := a3 (by omega)
  rw [h1 _ h] at this; cases this
 ·exact h
 ·have := h2 (by omega)
  rw [a2 _ h] at this; cases this
def relL (r : List (List Bool)) (i k : Nat) : Bool := (r.getD i []).getD k false
noncomputable def simL (a : Aut) : List (List Bool) := (List.range a.nodes.length).map (fun i => (List.range a.nodes.length).map (fun k => @decide (Sim a i k) (Classical.propDecidable _)))
theorem simL_len (a : Aut) : (simL a).length = a.nodes.length := by simp [simL]
theorem sim_rel {a : Aut} {i k : Nat} : relL (simL a) i k = true ↔ Sim a i k := by
 constructor
 ·intro h
  unfold relL simL at h
  by_cases hi : i < a.nodes.length
  ·by_cases hk : k < a.nodes.length
   ·simpa [List.getD, hi, hk] using h
   ·simp [List.getD, hi, hk] at h
  ·simp [List.getD, hi] at h
 ·intro h
  obtain ⟨hi, hk⟩ := (sim_sim a).lt i k h
  unfold relL simL
  simpa [List.getD, hi, hk] using h
def likeF (r : List (List Bool)) (i : Nat) : Nat := firstB (fun k => relL r i k && relL r k i) i
def leadL (r : List (List Bool)) (n : Nat) : List Bool := (List.range n).map (fun i => decide (likeF r i = i))
def numM (r : List (List Bool)) (n i : Nat) : Nat := numC (leadL r n) (likeF r i)
def onceI (f : Nat → Nat) (l : List Int) : List Int := l.foldl (fun out t => if ((f t.toNat : Nat) : Int) ∈ out then out else out ++ [((f t.toNat : Nat) : Int)]) []
theorem onceI_snoc (f : Nat → Nat) (l : List Int) (t : Int) : onceI f (l ++ [t]) = if ((f t.toNat : Nat) : Int) ∈ onceI f l then onceI f l else onceI f l ++ [((f t.toNat : Nat) : Int)] := by
 unfold onceI
 rw [List.foldl_append]; rfl
theorem snocS_ind {α : Type} {P : List α → Prop} (h0 : P []) (h1 : ∀ l x, P l → P (l ++ [x])) (l : List α) : P l := by
 have key : ∀ n (l : List α), l.length = n → P l := by
  intro n
  induction n with
  | zero => intro l hl; rw [List.eq_nil_of_length_eq_zero hl]; exact h0
  | succ n ih =>
   intro l hl
   have hne : l ≠ [] := fun e => by rw [e] at hl; cases hl
   rw [← List.dropLast_concat_getLast hne]
   exact h1 _ _ (ih _ (by rw [List.length_dropLast]; omega))
 exact key _ l rfl
theorem onceI_mem (f : Nat → Nat) (x : Int) (l : List Int) : x ∈ onceI f l ↔ ∃ t ∈ l, ((f t.toNat : Nat) : Int) = x := by
 refine snocS_ind (P := fun l => x ∈ onceI f l ↔ ∃ t ∈ l, ((f t.toNat : Nat) : Int) = x) (by simp [onceI]) (fun l y ih => ?_) l
 rw [onceI_snoc]
 constructor
 ·intro h
  split at h
  ·obtain ⟨t, ht, e⟩ := ih.1 h
   exact ⟨t, List.mem_append_left _ ht, e⟩
  ·rcases List.mem_append.1 h with h | h
   ·obtain ⟨t, ht, e⟩ := ih.1 h
    exact ⟨t, List.mem_append_left _ ht, e⟩
   ·exact ⟨y, by simp, (mS.1 h).symm⟩
 ·rintro ⟨t, ht, e⟩
  rcases List.mem_append.1 ht with ht | ht
  ·have := ih.2 ⟨t, ht, e⟩
   split
   ·exact this
   ·exact List.mem_append_left _ this
  ·rw [mS.1 ht] at e
   rw [e]
   split
   ·assumption
   ·exact List.mem_append_right _ (List.mem_singleton_self _)
theorem onceI_le (f : Nat → Nat) (l : List Int) : (onceI f l).length ≤ l.length := by
 refine snocS_ind (P := fun l => (onceI f l).length ≤ l.length) (by simp [onceI]) (fun l y ih => ?_) l
 rw [onceI_snoc]
 split
 ·simp; omega
 ·simp; omega
def mergeU (a : Aut) (r : List (List Bool)) : Aut := ⟨a.sets, onceI (numM r a.nodes.length) a.init, ((List.range a.nodes.length).filter (fun i => (leadL r a.nodes.length).getD i false)).map (fun i => (a.at i).put (onceI (numM r a.nodes.length) (a.at i).to))⟩
noncomputable def mergeA (a : Aut) : Aut := mergeU a (simL a)
theorem lead_at {r : List (List Bool)} {n i : Nat} (hi : i < n) : (leadL r n).getD i false = true ↔ likeF r i = i := by simp [leadL, List.getD, hi]
theorem merge_len (a : Aut) (r : List (List Bool)) : (mergeU a r).nodes.length = numC (leadL r a.nodes.length) a.nodes.length := by simp [mergeU, numC]
section
variable {a : Aut} {W : List Nat} {lp : Nat}
theorem like_le (r : List (List Bool)) (i : Nat) : likeF r i ≤ i := (firstB_spec _ i).1
theorem like_sim (hA : a.Ok) {i : Nat} (hi : i < a.nodes.length) : Sim a i (likeF (simL a) i) ∧ Sim a (likeF (simL a) i) i := by
 obtain ⟨h1, _, h3⟩ := firstB_spec (fun k => relL (simL a) i k && relL (simL a) k i) i
 by_cases h : likeF (simL a) i < i
 ·have := h3 h
  rw [Bool.and_eq_true, sim_rel, sim_rel] at this
  exact this
 ·have : likeF (simL a) i = i := by have := like_le (simL a) i; omega
  rw [this]
  exact ⟨Sim.refl hA hi, Sim.refl hA hi⟩
theorem like_like (hA : a.Ok) {i : Nat} (hi : i < a.nodes.length) : likeF (simL a) (likeF (simL a) i) = likeF (simL a) i := by
 obtain ⟨s1, s2⟩ := like_sim hA hi
 have hl : likeF (simL a) i < a.nodes.length := Nat.lt_of_le_of_lt (like_le _ _) hi
 obtain ⟨t1, t2⟩ := like_sim hA hl
 have hle := like_le (simL a) (likeF (simL a) i)
 refine Nat.le_antisymm hle (Nat.le_of_not_lt (fun hlt => ?_))
 have h2 := (firstB_spec (fun k => relL (simL a) i k && relL (simL a) k i) i).2.1 _ hlt
 have h3 : (relL (simL a) i (likeF (simL a) (likeF (simL a) i)) && relL (simL a) (likeF (simL a) (likeF (simL a) i)) i) = true := by
  rw [Bool.and_eq_true, sim_rel, sim_rel]
  exact ⟨s1.trans t1, t2.trans s2⟩
 rw [h3] at h2; cases h2
theorem like_lead (hA : a.Ok) {i : Nat} (hi : i < a.nodes.length) : (leadL (simL a) a.nodes.length).getD (likeF (simL a) i) false = true :=
 (lead_at (Nat.lt_of_le_of_lt (like_le _ _) hi)).2 (like_like hA hi)
end
def firstP (l : List Int) (t : Int) : Nat := firstB (fun i => decide (l.getD i 0 = t)) l.length
def staysB (r : List (List Bool)) (l : List Int) (i : Nat) : Bool :=
 decide (firstP l (l.getD i 0) = i) && (List.range l.length).all (fun k => !(decide (l.getD k 0 ≠ l.getD i 0) && relL r (l.getD i 0).toNat (l.getD k 0).toNat && (!relL r (l.getD k 0).toNat (l.getD i 0).toNat || decide (firstP l (l.getD k 0) < i))))
def leftL (r : List (List Bool)) (l : List Int) : List Int := ((List.range l.length).filter (staysB r l)).map (fun i => l.getD i 0)
theorem leftL_sub {r : List (List Bool)} {l : List Int} {t : Int} (h : t ∈ leftL r l) : t ∈ l := by
 obtain ⟨i, hi, rfl⟩ := List.mem_map.1 h
 have := List.mem_range.1 (List.mem_filter.1 hi).1
 rw [gD, gE this]
 exact mM this
theorem leftL_le (r : List (List Bool)) (l : List Int) : (leftL r l).length ≤ l.length := by
 unfold leftL
 rw [List.length_map]
 have := List.length_filter_le (staysB r l) (List.range l.length)
 rwa [List.length_range] at this
def pruneU (a : Aut) (r : List (List Bool)) : Aut := ⟨a.sets, leftL r a.init, a.nodes.map (fun x => x.put (leftL r x.to))⟩
noncomputable def pruneA (a : Aut) : Aut := pruneU a (simL a)
theorem prune_len (a : Aut) (r : List (List Bool)) : (pruneU a r).nodes.length = a.nodes.length := by simp [pruneU]
end Go.Proofs.YtiebpncpdbnelaaDoor
