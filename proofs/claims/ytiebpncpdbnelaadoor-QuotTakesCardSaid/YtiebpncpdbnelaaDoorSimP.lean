/- Direct simulation: the greatest one; what is merged or pruned by it takes the same words. Plain. -/
import Derived.Test.YtiebpncpdbnelaaDoorZaw
namespace Go.Proofs.YtiebpncpdbnelaaDoor
def aloneB (x y : ANd) (s : Nat) : Bool := decide (y.need &&& x.need = y.need) && decide (y.ban &&& x.ban = y.ban) && decide (x.inn &&& y.inn &&& allB s = x.inn &&& allB s)
theorem sub_bits {x y : Nat} : y &&& x = y ↔ ∀ b, y.testBit b = true → x.testBit b = true := by
 constructor
 ·intro h b hb
  have := congrArg (fun z => z.testBit b) h
  simp only [Nat.testBit_and, hb, Bool.true_and] at this
  exact this
 ·intro h
  refine Nat.eq_of_testBit_eq (fun b => ?_)
  rw [Nat.testBit_and]
  cases hb : y.testBit b
  ·rfl
  ·rw [h b hb]; rfl
theorem in_bits {x y s : Nat} : x &&& y &&& allB s = x &&& allB s ↔ ∀ b, b < s → x.testBit b = true → y.testBit b = true := by
 constructor
 ·intro h b hs hb
  have := congrArg (fun z => z.testBit b) h
  simp only [Nat.testBit_and, allB_bit, hb, decide_eq_true hs, Bool.true_and, Bool.and_true] at this
  exact this
 ·intro h
  refine Nat.eq_of_testBit_eq (fun b => ?_)
  simp only [Nat.testBit_and, allB_bit]
  by_cases hs : b < s
  ·cases hb : x.testBit b
   ·simp
   ·simp [h b hs hb]
  ·simp [hs]
theorem alone_iff {x y : ANd} {s : Nat} : aloneB x y s = true ↔ (∀ b, y.need.testBit b = true → x.need.testBit b = true) ∧ (∀ b, y.ban.testBit b = true → x.ban.testBit b = true) ∧ ∀ b, b < s → x.inn.testBit b = true → y.inn.testBit b = true := by
 unfold aloneB
 rw [Bool.and_eq_true, Bool.and_eq_true, decide_eq_true_eq, decide_eq_true_eq, decide_eq_true_eq, sub_bits, sub_bits, in_bits, and_assoc]
theorem alone_refl (x : ANd) (s : Nat) : aloneB x x s = true := alone_iff.2 ⟨fun _ h => h, fun _ h => h, fun _ _ h => h⟩
theorem alone_trans {x y z : ANd} {s : Nat} (h : aloneB x y s = true) (k : aloneB y z s = true) : aloneB x z s = true := by
 obtain ⟨h1, h2, h3⟩ := alone_iff.1 h
 obtain ⟨k1, k2, k3⟩ := alone_iff.1 k
 exact alone_iff.2 ⟨fun b hb => h1 b (k1 b hb), fun b hb => h2 b (k2 b hb), fun b hs hb => k3 b hs (h3 b hs hb)⟩
theorem alone_rds {x y : ANd} {s S : Nat} (h : aloneB x y s = true) (hr : rdsB x S = true) : rdsB y S = true := by
 obtain ⟨h1, h2, _⟩ := alone_iff.1 h
 unfold rdsB at hr ⊢
 rw [Bool.and_eq_true, decide_eq_true_eq, decide_eq_true_eq] at hr ⊢
 refine ⟨sub_bits.2 (fun b hb => sub_bits.1 hr.1 b (h1 b hb)), Nat.eq_of_testBit_eq (fun b => ?_)⟩
 rw [Nat.testBit_and, Nat.zero_testBit]
 cases hb : y.ban.testBit b
 ·rfl
 ·have := congrArg (fun z => z.testBit b) hr.2
  simp only [Nat.testBit_and, Nat.zero_testBit, h2 b hb, Bool.true_and] at this
  rw [this]; rfl
structure SimR (a : Aut) (R : Nat → Nat → Prop) : Prop where
 lt : ∀ i k, R i k → i < a.nodes.length ∧ k < a.nodes.length
 one : ∀ i k, R i k → aloneB (a.at i) (a.at k) a.sets.toNat = true
 go : ∀ i k, R i k → ∀ t : Nat, (t : Int) ∈ (a.at i).to → ∃ u : Nat, (u : Int) ∈ (a.at k).to ∧ R t u
def Sim (a : Aut) (i k : Nat) : Prop := ∃ R, SimR a R ∧ R i k
theorem sim_sim (a : Aut) : SimR a (Sim a) :=
 ⟨fun i k ⟨_, h, hr⟩ => h.lt i k hr, fun i k ⟨_, h, hr⟩ => h.one i k hr, fun i k ⟨R, h, hr⟩ t ht => by
  obtain ⟨u, hu, hr2⟩ := h.go i k hr t ht
  exact ⟨u, hu, R, h, hr2⟩⟩
theorem Sim.refl {a : Aut} (hA : a.Ok) {i : Nat} (hi : i < a.nodes.length) : Sim a i i := by
 refine ⟨fun i k => i = k ∧ i < a.nodes.length, ⟨fun i k h => ⟨h.2, h.1 ▸ h.2⟩, fun i k h => by rw [h.1]; exact alone_refl _ _, fun i k h t ht => ?_⟩, rfl, hi⟩
 obtain ⟨rfl, h⟩ := h
 obtain ⟨t', e, ht'⟩ := hA.to h ht
 exact ⟨t, ht, rfl, by omega⟩
theorem Sim.trans {a : Aut} {i k j : Nat} (h : Sim a i k) (g : Sim a k j) : Sim a i j := by
 have s := sim_sim a
 refine ⟨fun i j => ∃ k, Sim a i k ∧ Sim a k j, ⟨fun i j ⟨k, h, g⟩ => ⟨(s.lt i k h).1, (s.lt k j g).2⟩, fun i j ⟨k, h, g⟩ => alone_trans (s.one i k h) (s.one k j g), fun i j ⟨k, h, g⟩ t ht => ?_⟩, k, h, g⟩
 obtain ⟨u, hu, h1⟩ := s.go i k h t ht
 obtain ⟨v, hv, h2⟩ := s.go k j g u hu
 exact ⟨v, hv, u, h1, h2⟩
theorem acc_sim {a b : Aut} {W : List Nat} {lp : Nat} {S : Nat → Nat → Prop} (hs : b.sets.toNat = a.sets.toNat) (h0 : ∀ i : Nat, (i : Int) ∈ a.init → i < a.nodes.length → ∃ p : Nat, (p : Int) ∈ b.init ∧ S i p)
  (h1 : ∀ i p, S i p → p < b.nodes.length ∧ aloneB (a.at i) (b.at p) a.sets.toNat = true) (h2 : ∀ i p, S i p → ∀ t : Nat, (t : Int) ∈ (a.at i).to → t < a.nodes.length → ∃ u : Nat, (u : Int) ∈ (b.at p).to ∧ S t u) (h : Acc a W lp) : Acc b W lp := by
 obtain ⟨r, hr0, hr⟩ := h
 obtain ⟨p0, hp0, hS0⟩ := h0 _ hr0 (hr.lt 0)
 have step : ∀ k, ∀ p : {p : Nat // S (r k) p}, ∃ u : {p : Nat // S (r (k + 1)) p}, ((u.1 : Nat) : Int) ∈ (b.at p.1).to := fun k p => by
  obtain ⟨u, hu, hS⟩ := h2 _ _ p.2 _ (hr.to k) (hr.lt (k + 1))
  exact ⟨⟨u, hS⟩, hu⟩
 obtain ⟨f, hf0, hf⟩ : ∃ f : ∀ k, {p : Nat // S (r k) p}, f 0 = ⟨p0, hS0⟩ ∧ ∀ k, (((f (k + 1)).1 : Nat) : Int) ∈ (b.at (f k).1).to :=
  ⟨fun k => Nat.rec ⟨p0, hS0⟩ (fun k p => Classical.choose (step k p)) k, rfl, fun k => Classical.choose_spec (step k _)⟩
 refine ⟨fun k => (f k).1, by show (((f 0).1 : Nat) : Int) ∈ b.init; rw [hf0]; exact hp0, ⟨fun k => (h1 _ _ (f k).2).1, fun k => alone_rds (h1 _ _ (f k).2).2 (hr.rds k), hf, fun i hi k => ?_⟩⟩
 obtain ⟨m, h1', h2'⟩ := hr.met i (by rw [← hs]; exact hi) k
 exact ⟨m, h1', (alone_iff.1 (h1 _ _ (f m).2).2).2.2 i (by rw [← hs]; exact hi) h2'⟩
def firstB (p : Nat → Bool) : Nat → Nat
 | 0 => 0
 | n + 1 => if firstB p n < n then firstB p n else if p n = true then n else n + 1
theorem firstB_spec (p : Nat → Bool) : ∀ n, firstB p n ≤ n ∧ (∀ k, k < firstB p n → p k = false) ∧ (firstB p n < n → p (firstB p n) = true)
 | 0 => ⟨lR, fun k hk => absurd hk (Nat.not_lt_zero _), fun h => absurd h (Nat.lt_irrefl _)⟩
 | n + 1 => by
  obtain ⟨h1, h2, h3⟩ := firstB_spec p n
  unfold firstB
  by_cases hl : firstB p n < n
  ·rw [if_pos hl]
   exact ⟨by omega, h2, fun _ => h3 hl⟩
  ·rw [if_neg hl]
   have e : firstB p n = n := by omega
   rw [e] at h2
   by_cases hp : p n = true
   ·rw [if_pos hp]
    exact ⟨by omega, h2, fun _ => hp⟩
   ·rw [if_neg hp]
    refine ⟨lR, fun k hk => ?_, fun h => absurd h (Nat.lt_irrefl _)⟩
    by_cases hkn : k = n
    ·subst hkn; simpa using hp
    ·exact h2 k (by omega)
theorem firstB_lt {p : Nat → Bool} {n k : Nat} (_hk : k < n) (hp : p k = true) : firstB p n ≤ k := by
 obtain ⟨_, h2, _⟩ := firstB_spec p n
 refine Nat.le_of_not_lt (fun h => ?_)
 rw [h2 k h] at hp; cases hp
theorem firstB_uniq {p : Nat → Bool} {n k : Nat} (hk : k ≤ n) (h1 : ∀ j, j < k → p j = false) (h2 : k < n → p k = true) : firstB p n = k := by
 obtain ⟨a1, a2, a3⟩ := firstB_spec p n
 rcases Nat.lt_trichotomy (firstB p n) k with h | h | h
 ·have := a3 (by omega)
  rw [h1 _ h] at this; cases this
 ·exact h
 ·have := h2 (by omega)
  rw [a2 _ h] at this; cases this
def relL (r : List (List Bool)) (i k : Nat) : Bool := (r.getD i []).getD k false
noncomputable def simL (a : Aut) : List (List Bool) := (List.range a.nodes.length).map (fun i => (List.range a.nodes.length).map (fun k => @decide (Sim a i k) (Classical.propDecidable _)))
theorem simL_len (a : Aut) : (simL a).length = a.nodes.length := by simp [simL]
theorem sim_rel {a : Aut} {i k : Nat} : relL (simL a) i k = true ↔ Sim a i k := by
 constructor
 ·intro h
  unfold relL simL at h
  by_cases hi : i < a.nodes.length
  ·by_cases hk : k < a.nodes.length
   ·simpa [List.getD, hi, hk] using h
   ·simp [List.getD, hi, hk] at h
  ·simp [List.getD, hi] at h
 ·intro h
  obtain ⟨hi, hk⟩ := (sim_sim a).lt i k h
  unfold relL simL
  simpa [List.getD, hi, hk] using h
def likeF (r : List (List Bool)) (i : Nat) : Nat := firstB (fun k => relL r i k && relL r k i) i
def leadL (r : List (List Bool)) (n : Nat) : List Bool := (List.range n).map (fun i => decide (likeF r i = i))
def numM (r : List (List Bool)) (n i : Nat) : Nat := numC (leadL r n) (likeF r i)
def onceI (f : Nat → Nat) (l : List Int) : List Int := l.foldl (fun out t => if ((f t.toNat : Nat) : Int) ∈ out then out else out ++ [((f t.toNat : Nat) : Int)]) []
theorem onceI_snoc (f : Nat → Nat) (l : List Int) (t : Int) : onceI f (l ++ [t]) = if ((f t.toNat : Nat) : Int) ∈ onceI f l then onceI f l else onceI f l ++ [((f t.toNat : Nat) : Int)] := by
 unfold onceI
 rw [List.foldl_append]; rfl
theorem snocS_ind {α : Type} {P : List α → Prop} (h0 : P []) (h1 : ∀ l x, P l → P (l ++ [x])) (l : List α) : P l := by
 have key : ∀ n (l : List α), l.length = n → P l := by
  intro n
  induction n with
  | zero => intro l hl; rw [List.eq_nil_of_length_eq_zero hl]; exact h0
  | succ n ih =>
   intro l hl
   have hne : l ≠ [] := fun e => by rw [e] at hl; cases hl
   rw [← List.dropLast_concat_getLast hne]
   exact h1 _ _ (ih _ (by rw [List.length_dropLast]; omega))
 exact key _ l rfl
theorem onceI_mem (f : Nat → Nat) (x : Int) (l : List Int) : x ∈ onceI f l ↔ ∃ t ∈ l, ((f t.toNat : Nat) : Int) = x := by
 refine snocS_ind (P := fun l => x ∈ onceI f l ↔ ∃ t ∈ l, ((f t.toNat : Nat) : Int) = x) (by simp [onceI]) (fun l y ih => ?_) l
 rw [onceI_snoc]
 constructor
 ·intro h
  split at h
  ·obtain ⟨t, ht, e⟩ := ih.1 h
   exact ⟨t, List.mem_append_left _ ht, e⟩
  ·rcases List.mem_append.1 h with h | h
   ·obtain ⟨t, ht, e⟩ := ih.1 h
    exact ⟨t, List.mem_append_left _ ht, e⟩
   ·exact ⟨y, by simp, (mS.1 h).symm⟩
 ·rintro ⟨t, ht, e⟩
  rcases List.mem_append.1 ht with ht | ht
  ·have := ih.2 ⟨t, ht, e⟩
   split
   ·exact this
   ·exact List.mem_append_left _ this
  ·rw [mS.1 ht] at e
   rw [e]
   split
   ·assumption
   ·exact List.mem_append_right _ (List.mem_singleton_self _)
theorem onceI_le (f : Nat → Nat) (l : List Int) : (onceI f l).length ≤ l.length := by
 refine snocS_ind (P := fun l => (onceI f l).length ≤ l.length) (by simp [onceI]) (fun l y ih => ?_) l
 rw [onceI_snoc]
 split
 ·simp; omega
 ·simp; omega
def mergeU (a : Aut) (r : List (List Bool)) : Aut := ⟨a.sets, onceI (numM r a.nodes.length) a.init, ((List.range a.nodes.length).filter (fun i => (leadL r a.nodes.length).getD i false)).map (fun i => (a.at i).put (onceI (numM r a.nodes.length) (a.at i).to))⟩
noncomputable def mergeA (a : Aut) : Aut := mergeU a (simL a)
theorem lead_at {r : List (List Bool)} {n i : Nat} (hi : i < n) : (leadL r n).getD i false = true ↔ likeF r i = i := by simp [leadL, List.getD, hi]
theorem merge_at {a : Aut} {r : List (List Bool)} {i : Nat} (hi : i < a.nodes.length) (hu : (leadL r a.nodes.length).getD i false = true) : (mergeU a r).at (numC (leadL r a.nodes.length) i) = (a.at i).put (onceI (numM r a.nodes.length) (a.at i).to) := by
 have h := kept_at hi hu
 show (((List.range a.nodes.length).filter (fun i => (leadL r a.nodes.length).getD i false)).map (fun i => ((a.at i).put (onceI (numM r a.nodes.length) (a.at i).to)))).getD (numC (leadL r a.nodes.length) i) ANd.none = _
 rw [gD, List.getElem?_map, h]; rfl
theorem merge_len (a : Aut) (r : List (List Bool)) : (mergeU a r).nodes.length = numC (leadL r a.nodes.length) a.nodes.length := by simp [mergeU, numC]
section
variable {a : Aut} {W : List Nat} {lp : Nat}
theorem like_le (r : List (List Bool)) (i : Nat) : likeF r i ≤ i := (firstB_spec _ i).1
theorem like_sim (hA : a.Ok) {i : Nat} (hi : i < a.nodes.length) : Sim a i (likeF (simL a) i) ∧ Sim a (likeF (simL a) i) i := by
 obtain ⟨h1, _, h3⟩ := firstB_spec (fun k => relL (simL a) i k && relL (simL a) k i) i
 by_cases h : likeF (simL a) i < i
 ·have := h3 h
  rw [Bool.and_eq_true, sim_rel, sim_rel] at this
  exact this
 ·have : likeF (simL a) i = i := by have := like_le (simL a) i; omega
  rw [this]
  exact ⟨Sim.refl hA hi, Sim.refl hA hi⟩
theorem like_like (hA : a.Ok) {i : Nat} (hi : i < a.nodes.length) : likeF (simL a) (likeF (simL a) i) = likeF (simL a) i := by
 obtain ⟨s1, s2⟩ := like_sim hA hi
 have hl : likeF (simL a) i < a.nodes.length := Nat.lt_of_le_of_lt (like_le _ _) hi
 obtain ⟨t1, t2⟩ := like_sim hA hl
 have hle := like_le (simL a) (likeF (simL a) i)
 refine Nat.le_antisymm hle (Nat.le_of_not_lt (fun hlt => ?_))
 have h2 := (firstB_spec (fun k => relL (simL a) i k && relL (simL a) k i) i).2.1 _ hlt
 have h3 : (relL (simL a) i (likeF (simL a) (likeF (simL a) i)) && relL (simL a) (likeF (simL a) (likeF (simL a) i)) i) = true := by
  rw [Bool.and_eq_true, sim_rel, sim_rel]
  exact ⟨s1.trans t1, t2.trans s2⟩
 rw [h3] at h2; cases h2
theorem like_lead (hA : a.Ok) {i : Nat} (hi : i < a.nodes.length) : (leadL (simL a) a.nodes.length).getD (likeF (simL a) i) false = true :=
 (lead_at (Nat.lt_of_le_of_lt (like_le _ _) hi)).2 (like_like hA hi)
theorem merge_acc (hA : a.Ok) : Acc (mergeA a) W lp ↔ Acc a W lp := by
 have hs := sim_sim a
 constructor
 ·refine acc_sim (S := fun m j => ∃ i, i < a.nodes.length ∧ (leadL (simL a) a.nodes.length).getD i false = true ∧ numC (leadL (simL a) a.nodes.length) i = m ∧ Sim a i j) rfl ?_ ?_ ?_
  ·intro m hm _
   obtain ⟨t, ht, e⟩ := (onceI_mem _ _ _).1 hm
   obtain ⟨t, rfl, htn⟩ := hA.first ht
   rw [tN] at e
   exact ⟨t, ht, _, Nat.lt_of_le_of_lt (like_le _ _) htn, like_lead hA htn, by unfold numM at e; omega, (like_sim hA htn).2⟩
  ·rintro m j ⟨i, hi, hu, rfl, hsim⟩
   refine ⟨(hs.lt i j hsim).2, ?_⟩
   unfold mergeA
   rw [merge_at hi hu]
   exact hs.one i j hsim
  ·rintro m j ⟨i, hi, hu, rfl, hsim⟩ t' ht' _
   unfold mergeA at ht'
   rw [merge_at hi hu] at ht'
   obtain ⟨t, ht, e⟩ := (onceI_mem _ _ _).1 ht'
   obtain ⟨t, rfl, htn⟩ := hA.to hi ht
   rw [tN] at e
   obtain ⟨u, hu', hsu⟩ := hs.go i j hsim t ht
   exact ⟨u, hu', _, Nat.lt_of_le_of_lt (like_le _ _) htn, like_lead hA htn, by unfold numM at e; omega, (like_sim hA htn).2.trans hsu⟩
 ·refine acc_sim (S := fun j m => ∃ i, i < a.nodes.length ∧ (leadL (simL a) a.nodes.length).getD i false = true ∧ numC (leadL (simL a) a.nodes.length) i = m ∧ Sim a j i) rfl ?_ ?_ ?_
  ·intro j hj hjn
   exact ⟨numM (simL a) a.nodes.length j, (onceI_mem _ _ _).2 ⟨j, hj, by rw [tN]⟩, _, Nat.lt_of_le_of_lt (like_le _ _) hjn, like_lead hA hjn, rfl, (like_sim hA hjn).1⟩
  ·rintro j m ⟨i, hi, hu, rfl, hsim⟩
   refine ⟨by unfold mergeA; rw [merge_len]; exact numC_lt hi hu, ?_⟩
   unfold mergeA
   rw [merge_at hi hu]
   exact hs.one j i hsim
  ·rintro j m ⟨i, hi, hu, rfl, hsim⟩ t ht htn
   obtain ⟨v, hv, hsv⟩ := hs.go j i hsim t ht
   have hvn := (hs.lt t v hsv).2
   refine ⟨numM (simL a) a.nodes.length v, ?_, _, Nat.lt_of_le_of_lt (like_le _ _) hvn, like_lead hA hvn, rfl, hsv.trans (like_sim hA hvn).1⟩
   unfold mergeA
   rw [merge_at hi hu]
   exact (onceI_mem _ _ _).2 ⟨v, hv, by rw [tN]⟩
end
def firstP (l : List Int) (t : Int) : Nat := firstB (fun i => decide (l.getD i 0 = t)) l.length
theorem firstP_at {l : List Int} {t : Int} (ht : t ∈ l) : firstP l t < l.length ∧ l.getD (firstP l t) 0 = t := by
 obtain ⟨i, hi⟩ := List.getElem?_of_mem ht
 have hil := (gB.1 hi).1
 have h1 : firstP l t ≤ i := firstB_lt hil (by rw [gD, hi]; simp)
 have hl : firstP l t < l.length := by omega
 exact ⟨hl, of_decide_eq_true ((firstB_spec (fun i => decide (l.getD i 0 = t)) l.length).2.2 hl)⟩
def staysB (r : List (List Bool)) (l : List Int) (i : Nat) : Bool :=
 decide (firstP l (l.getD i 0) = i) && (List.range l.length).all (fun k => !(decide (l.getD k 0 ≠ l.getD i 0) && relL r (l.getD i 0).toNat (l.getD k 0).toNat && (!relL r (l.getD k 0).toNat (l.getD i 0).toNat || decide (firstP l (l.getD k 0) < i))))
def leftL (r : List (List Bool)) (l : List Int) : List Int := ((List.range l.length).filter (staysB r l)).map (fun i => l.getD i 0)
theorem leftL_sub {r : List (List Bool)} {l : List Int} {t : Int} (h : t ∈ leftL r l) : t ∈ l := by
 obtain ⟨i, hi, rfl⟩ := List.mem_map.1 h
 have := List.mem_range.1 (List.mem_filter.1 hi).1
 rw [gD, gE this]
 exact mM this
theorem leftL_le (r : List (List Bool)) (l : List Int) : (leftL r l).length ≤ l.length := by
 unfold leftL
 rw [List.length_map]
 have := List.length_filter_le (staysB r l) (List.range l.length)
 rwa [List.length_range] at this
theorem countP_less {α : Type} {p q : α → Bool} : ∀ {l : List α}, (∀ x ∈ l, p x = true → q x = true) → (∃ x ∈ l, q x = true ∧ p x = false) → l.countP p < l.countP q
 | [], _, h => by obtain ⟨x, hx, _⟩ := h; cases hx
 | y :: l, h, hex => by
  have hmono : l.countP p ≤ l.countP q := List.countP_mono_left (fun x hx => h x (List.mem_cons_of_mem _ hx))
  rw [List.countP_cons, List.countP_cons]
  obtain ⟨x, hx, h1, h2⟩ := hex
  rcases List.mem_cons.1 hx with rfl | hx
  ·rw [h1, h2]; simp; omega
  ·have := countP_less (fun x hx => h x (List.mem_cons_of_mem _ hx)) ⟨x, hx, h1, h2⟩
   by_cases hp : p y = true
   ·rw [h y (List.mem_cons_self ..) hp, hp]; omega
   ·by_cases hq : q y = true
    ·simp [hp, hq]; omega
    ·simp [hp, hq]; omega
def betterB (r : List (List Bool)) (l : List Int) (u v : Int) : Bool := relL r u.toNat v.toNat && (!relL r v.toNat u.toNat || decide (firstP l v < firstP l u))
theorem left_best {r : List (List Bool)} {l : List Int} {t : Int} (hrefl : ∀ t ∈ l, relL r t.toNat t.toNat = true) (htr : ∀ t u v : Int, relL r t.toNat u.toNat = true → relL r u.toNat v.toNat = true → relL r t.toNat v.toNat = true) :
  t ∈ l → ∃ u ∈ leftL r l, relL r t.toNat u.toNat = true := by
 have hbt : ∀ u v w : Int, betterB r l u v = true → betterB r l v w = true → betterB r l u w = true := by
  intro u v w h1 h2
  unfold betterB at *
  rw [Bool.and_eq_true, Bool.or_eq_true, Bool.not_eq_true', decide_eq_true_eq] at *
  refine ⟨htr u v w h1.1 h2.1, ?_⟩
  by_cases hwu : relL r w.toNat u.toNat = true
  ·right
   have hwv := htr w u v hwu h1.1
   have hvu := htr v w u h2.1 hwu
   rcases h1.2 with h | h
   ·rw [hvu] at h; cases h
   ·rcases h2.2 with k | k
    ·rw [hwv] at k; cases k
    ·omega
  ·left; simpa using hwu
 have hbi : ∀ u ∈ l, betterB r l u u = false := by
  intro u hu
  unfold betterB
  rw [hrefl u hu]; simp
 have key : ∀ n (t : Int), t ∈ l → l.countP (betterB r l t) ≤ n → ∃ u ∈ leftL r l, relL r t.toNat u.toNat = true := by
  intro n
  induction n with
  | zero =>
   intro t ht hc
   refine ⟨t, ?_, hrefl t ht⟩
   have hno : ∀ v ∈ l, betterB r l t v = false := fun v hv => by
    have := List.countP_eq_zero.1 (Nat.le_zero.1 hc) v hv
    simpa using this
   obtain ⟨h1, h2⟩ := firstP_at ht
   refine List.mem_map.2 ⟨firstP l t, List.mem_filter.2 ⟨List.mem_range.2 h1, ?_⟩, h2⟩
   unfold staysB
   rw [Bool.and_eq_true, h2, List.all_eq_true]
   refine ⟨decide_eq_true rfl, fun k hk => ?_⟩
   have hk' := List.mem_range.1 hk
   have hv : l.getD k 0 ∈ l := by
    rw [gD, gE hk']; exact mM hk'
   have := hno _ hv
   unfold betterB at this
   rw [Bool.and_assoc, this, Bool.and_false]; rfl
  | succ n ih =>
   intro t ht hc
   by_cases hex : ∃ v ∈ l, betterB r l t v = true
   ·obtain ⟨v, hv, hb⟩ := hex
    have hlt : l.countP (betterB r l v) < l.countP (betterB r l t) := countP_less (fun w _ hw => hbt t v w hb hw) ⟨v, hv, hb, hbi v hv⟩
    obtain ⟨u, hu, hvu⟩ := ih v hv (by omega)
    refine ⟨u, hu, htr t v u ?_ hvu⟩
    unfold betterB at hb
    rw [Bool.and_eq_true] at hb
    exact hb.1
   ·exact ih t ht (by
     have : l.countP (betterB r l t) = 0 := List.countP_eq_zero.2 (fun v hv h => hex ⟨v, hv, h⟩)
     omega)
 exact fun ht => key _ t ht lR
def pruneU (a : Aut) (r : List (List Bool)) : Aut := ⟨a.sets, leftL r a.init, a.nodes.map (fun x => x.put (leftL r x.to))⟩
noncomputable def pruneA (a : Aut) : Aut := pruneU a (simL a)
theorem prune_len (a : Aut) (r : List (List Bool)) : (pruneU a r).nodes.length = a.nodes.length := by simp [pruneU]
theorem prune_at {a : Aut} {r : List (List Bool)} {i : Nat} (hi : i < a.nodes.length) : (pruneU a r).at i = (a.at i).put (leftL r (a.at i).to) := by simp [pruneU, Aut.at, List.getD, hi]
theorem simL_best {a : Aut} (hA : a.Ok) {l : List Int} (hl : ∀ t ∈ l, ∃ k : Nat, t = k ∧ k < a.nodes.length) {t : Nat} (ht : (t : Int) ∈ l) : ∃ u : Nat, (u : Int) ∈ leftL (simL a) l ∧ Sim a t u := by
 obtain ⟨u, hu, h⟩ := left_best (r := simL a) (l := l) (t := (t : Int)) (fun t ht => by
  obtain ⟨k, rfl, hk⟩ := hl t ht
  rw [tN, sim_rel]; exact Sim.refl hA hk) (fun t u v h1 h2 => sim_rel.2 ((sim_rel.1 h1).trans (sim_rel.1 h2))) ht
 obtain ⟨k, rfl, hk⟩ := hl u (leftL_sub hu)
 rw [tN, tN, sim_rel] at h
 exact ⟨k, hu, h⟩
theorem prune_acc {a : Aut} {W : List Nat} {lp : Nat} (hA : a.Ok) : Acc (pruneA a) W lp ↔ Acc a W lp := by
 have hs := sim_sim a
 constructor
 ·refine acc_sim (S := fun i p => i = p ∧ i < a.nodes.length) rfl (fun i hi hn => ⟨i, leftL_sub hi, rfl, by rw [pruneA, prune_len] at hn; exact hn⟩) ?_ ?_
  ·rintro i p ⟨rfl, hi⟩
   refine ⟨hi, ?_⟩
   unfold pruneA
   rw [prune_at hi]
   exact alone_refl _ _
  ·rintro i p ⟨rfl, hi⟩ t ht htn
   unfold pruneA at ht htn
   rw [prune_at hi] at ht
   rw [prune_len] at htn
   exact ⟨t, leftL_sub ht, rfl, htn⟩
 ·refine acc_sim (S := fun i p => Sim a i p) rfl ?_ ?_ ?_
  ·intro i hi _
   exact simL_best hA (fun t ht => hA.first ht) hi
  ·intro i p h
   have hp := (hs.lt i p h).2
   refine ⟨by unfold pruneA; rw [prune_len]; exact hp, ?_⟩
   unfold pruneA
   rw [prune_at hp]
   exact hs.one i p h
  ·intro i p h t ht _
   have hp := (hs.lt i p h).2
   obtain ⟨u, hu, h1⟩ := hs.go i p h t ht
   obtain ⟨v, hv, h2⟩ := simL_best hA (fun t ht => hA.to hp ht) hu
   refine ⟨v, ?_, h1.trans h2⟩
   unfold pruneA
   rw [prune_at hp]
   exact hv
end Go.Proofs.YtiebpncpdbnelaaDoor
