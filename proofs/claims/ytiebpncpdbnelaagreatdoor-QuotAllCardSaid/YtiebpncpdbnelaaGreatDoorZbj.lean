/- Texts that stand one behind the other, in one file. -/
import Derived.Test.YtiebpncpdbnelaaGreatDoorZbi
namespace Go.Proofs.YtiebpncpdbnelaaGreatDoor
structure LessA (b a : Aut) : Prop where
 nodes : b.nodes.length ≤ a.nodes.length
 init : b.init.length ≤ a.init.length
 rows : ∀ x ∈ b.nodes, ∃ y ∈ a.nodes, x.to.length ≤ y.to.length
theorem LessA.refl (a : Aut) : LessA a a := ⟨lR, lR, fun x hx => ⟨x, hx, lR⟩⟩
theorem LessA.trans {a b c : Aut} (h : LessA c b) (k : LessA b a) : LessA c a := ⟨Nat.le_trans h.nodes k.nodes, Nat.le_trans h.init k.init, fun x hx => by
 obtain ⟨y, hy, h1⟩ := h.rows x hx
 obtain ⟨z, hz, h2⟩ := k.rows y hy
 exact ⟨z, hz, Nat.le_trans h1 h2⟩⟩
structure GoodA (a : Aut) : Prop where
 n256 : a.nodes.length ≤ 256
 sets : 0 ≤ a.sets ∧ a.sets ≤ 16
 ok : a.Ok
 inn : ∀ x ∈ a.nodes, x.inn < 2 ^ a.sets.toNat
theorem chkNds_zeroQ {N : Nat} {s : Int} : ∀ {l : List ANd}, chkNds N s l = 0 → ∀ x ∈ l, chkNd N s x = 0
 | [], _, x, hx => by cases hx
 | y :: r, h, x, hx => by
  unfold chkNds at h
  split at h
  ·rename_i hy
   rcases List.mem_cons.1 hx with rfl | hx
   ·exact hy
   ·exact chkNds_zeroQ h x hx
  ·rename_i hy
   exact absurd h hy
theorem chk_iff {a : Aut} : chkA a = 0 ↔ GoodA a := by
 constructor
 ·intro h
  unfold chkA at h
  by_cases h1 : 256 < a.nodes.length ∨ 16 < a.sets
  ·rw [if_pos h1] at h; omega
  ·rw [if_neg h1] at h
   by_cases h2 : a.sets < 0
   ·rw [if_pos h2] at h; omega
   ·rw [if_neg h2] at h
    by_cases h3 : a.init.all (isNd a.nodes.length) = true
    ·rw [if_pos h3] at h
     have hz := chkNds_zeroQ h
     have hx : ∀ x ∈ a.nodes, x.to.all (isNd a.nodes.length) = true ∧ x.inn >>> a.sets.toNat = 0 := fun x hx => by
      have := hz x hx
      unfold chkNd at this
      split at this
      ·rename_i h4
       split at this
       ·rename_i h5; exact ⟨h4, h5⟩
       ·omega
      ·omega
     refine ⟨by omega, by omega, ⟨fun i hi => List.all_eq_true.1 h3 i hi, fun x hx' t ht => List.all_eq_true.1 (hx x hx').1 t ht⟩, fun x hx' => ?_⟩
     have := (hx x hx').2
     rw [Nat.shiftRight_eq_div_pow] at this
     rcases Nat.div_eq_zero_iff.1 this with h | h
     ·have := Nat.two_pow_pos a.sets.toNat; omega
     ·exact h
    ·rw [if_neg h3] at h; omega
 ·intro h
  exact chkA_zero h.n256 h.sets h.ok h.inn
def genU (a : Aut) (p : Nat → Bool) (F : List Int → List Int) : Aut := ⟨a.sets, F a.init, ((List.range a.nodes.length).filter p).map (fun i => (a.at i).put (F (a.at i).to))⟩
def mu (a : Aut) : Nat := a.nodes.length + a.init.length + (a.nodes.map (fun x => x.to.length)).sum
theorem nodes_at (a : Aut) : (List.range a.nodes.length).map a.at = a.nodes := by
 refine List.ext_getElem (by simp) (fun i h1 h2 => ?_)
 simp [Aut.at, List.getD, h2]
theorem sum_filter_le {p : Nat → Bool} {f g : Nat → Nat} : ∀ (l : List Nat), (∀ i ∈ l, f i ≤ g i) → ((l.filter p).map f).sum ≤ (l.map g).sum
 | [], _ => lR
 | x :: l, h => by
  have ih := sum_filter_le (p := p) l (fun i hi => h i (List.mem_cons_of_mem _ hi))
  have hx := h x (List.mem_cons_self ..)
  rw [List.filter_cons]
  split
  ·simp only [List.map_cons, List.sum_cons]; omega
  ·simp only [List.map_cons, List.sum_cons]; omega
theorem sum_eq {f g : Nat → Nat} : ∀ (l : List Nat), (∀ i ∈ l, f i ≤ g i) → (l.map f).sum = (l.map g).sum → ∀ i ∈ l, f i = g i
 | [], _, _, i, hi => by cases hi
 | x :: l, h, e, i, hi => by
  have h0 := sum_filter_le (p := fun _ => true) l (fun i hi => h i (List.mem_cons_of_mem _ hi))
  rw [List.filter_eq_self.2 (fun _ _ => rfl)] at h0
  have hx := h x (List.mem_cons_self ..)
  simp only [List.map_cons, List.sum_cons] at e
  rcases List.mem_cons.1 hi with rfl | hi
  ·omega
  ·exact sum_eq l (fun i hi => h i (List.mem_cons_of_mem _ hi)) (by omega) i hi
theorem filter_all {p : Nat → Bool} {n : Nat} (h : ((List.range n).filter p).length = n) : ∀ i, i < n → p i = true := by
 have : (List.range n).filter p = List.range n := List.filter_sublist.eq_of_length (by rw [h, List.length_range])
 intro i hi
 exact List.filter_eq_self.1 this i (List.mem_range.2 hi)
section
variable {a : Aut} {p : Nat → Bool} {F : List Int → List Int}
theorem gen_len : (genU a p F).nodes.length ≤ a.nodes.length := by
 unfold genU
 rw [List.length_map]
 have := List.length_filter_le p (List.range a.nodes.length)
 rwa [List.length_range] at this
theorem gen_less (hF : ∀ l, (F l).length ≤ l.length) : LessA (genU a p F) a := by
 refine ⟨gen_len, hF _, fun x hx => ?_⟩
 obtain ⟨i, hi, rfl⟩ := List.mem_map.1 hx
 exact ⟨a.at i, at_mem (List.mem_range.1 (List.mem_filter.1 hi).1), hF _⟩
theorem gen_sum (hF : ∀ l, (F l).length ≤ l.length) : ((genU a p F).nodes.map (fun x => x.to.length)).sum ≤ (a.nodes.map (fun x => x.to.length)).sum := by
 have h1 := sum_filter_le (p := p) (f := fun i => (F (a.at i).to).length) (g := fun i => (a.at i).to.length) (List.range a.nodes.length) (fun i _ => hF _)
 have e1 : ((genU a p F).nodes.map (fun x => x.to.length)) = ((List.range a.nodes.length).filter p).map (fun i => (F (a.at i).to).length) := by
  unfold genU
  rw [List.map_map]; rfl
 have e2 : a.nodes.map (fun x => x.to.length) = (List.range a.nodes.length).map (fun i => (a.at i).to.length) := by
  conv => lhs; rw [← nodes_at a]
  rw [List.map_map]; rfl
 rw [e1, e2]; exact h1
theorem gen_mu (hF : ∀ l, (F l).length ≤ l.length) : mu (genU a p F) ≤ mu a := by
 have h1 := (gen_less (a := a) (p := p) hF).nodes
 have h2 := (gen_less (a := a) (p := p) hF).init
 have h3 := gen_sum (a := a) (p := p) hF
 unfold mu
 omega
theorem gen_same (hF : ∀ l, (F l).length ≤ l.length) (h : mu (genU a p F) = mu a) : (∀ i, i < a.nodes.length → p i = true) ∧ (F a.init).length = a.init.length ∧ ∀ i, i < a.nodes.length → (F (a.at i).to).length = (a.at i).to.length := by
 have h1 := (gen_less (a := a) (p := p) hF).nodes
 have h2 := (gen_less (a := a) (p := p) hF).init
 have h3 := gen_sum (a := a) (p := p) hF
 unfold mu at h
 have k1 : (genU a p F).nodes.length = a.nodes.length := by omega
 have k2 : (genU a p F).init.length = a.init.length := by omega
 have k3 : ((genU a p F).nodes.map (fun x => x.to.length)).sum = (a.nodes.map (fun x => x.to.length)).sum := by omega
 have hall : ∀ i, i < a.nodes.length → p i = true := filter_all (by unfold genU at k1; rw [List.length_map] at k1; exact k1)
 refine ⟨hall, k2, fun i hi => ?_⟩
 have e1 : ((genU a p F).nodes.map (fun x => x.to.length)) = (List.range a.nodes.length).map (fun i => (F (a.at i).to).length) := by
  unfold genU
  rw [List.map_map, List.filter_eq_self.2 (fun i hi => hall i (List.mem_range.1 hi))]; rfl
 have e2 : a.nodes.map (fun x => x.to.length) = (List.range a.nodes.length).map (fun i => (a.at i).to.length) := by
  conv => lhs; rw [← nodes_at a]
  rw [List.map_map]; rfl
 rw [e1, e2] at k3
 exact sum_eq _ (fun i _ => hF _) k3 i (List.mem_range.2 hi)
theorem gen_id (h1 : ∀ i, i < a.nodes.length → p i = true) (h2 : F a.init = a.init) (h3 : ∀ i, i < a.nodes.length → F (a.at i).to = (a.at i).to) : genU a p F = a := by
 unfold genU
 rw [List.filter_eq_self.2 (fun i hi => h1 i (List.mem_range.1 hi)), h2]
 have : (List.range a.nodes.length).map (fun i => (a.at i).put (F (a.at i).to)) = a.nodes := by
  conv => rhs; rw [← nodes_at a]
  refine List.map_congr_left (fun i hi => ?_)
  rw [h3 i (List.mem_range.1 hi)]; rfl
 rw [this]
theorem gen_good (h : GoodA a) (hF : ∀ l : List Int, (∀ t ∈ l, ∃ k : Nat, t = k ∧ k < a.nodes.length) → ∀ t ∈ F l, isNd (genU a p F).nodes.length t = true) : GoodA (genU a p F) := by
 refine ⟨Nat.le_trans gen_len h.n256, h.sets, ⟨fun t ht => hF a.init (fun t ht => h.ok.first ht) t ht, fun x hx t ht => ?_⟩, fun x hx => ?_⟩
 ·obtain ⟨i, hi, rfl⟩ := List.mem_map.1 hx
  exact hF _ (fun t ht => h.ok.to (List.mem_range.1 (List.mem_filter.1 hi).1) ht) t ht
 ·obtain ⟨i, hi, rfl⟩ := List.mem_map.1 hx
  exact h.inn (a.at i) (at_mem (List.mem_range.1 (List.mem_filter.1 hi).1))
end
section
variable {a : Aut}
theorem merge_gen (r : List (List Bool)) : mergeU a r = genU a (fun i => (leadL r a.nodes.length).getD i false) (onceI (numM r a.nodes.length)) := rfl
theorem prune_gen (r : List (List Bool)) : pruneU a r = genU a (fun _ => true) (leftL r) := by
 unfold pruneU genU
 rw [List.filter_eq_self.2 (fun _ _ => rfl)]
 congr 1
 conv => lhs; rw [← nodes_at a]
 rw [List.map_map]; rfl
theorem trim_mu : mu (trimA a) ≤ mu a := gen_mu (F := keptL (useL a)) (fun _l => keptL_le)
theorem trim_same (hA : a.Ok) (h : mu (trimA a) = mu a) : trimA a = a := trimU_true hA (gen_same (p := fun i => (useL a).getD i false) (F := keptL (useL a)) (fun _l => keptL_le) h).1
theorem merge_mu : mu (mergeA a) ≤ mu a := gen_mu (F := onceI (numM (simL a) a.nodes.length)) (fun l => onceI_le _ l)
theorem onceI_sub {f : Nat → Nat} (l : List Int) (h : ∀ t ∈ l, ((f t.toNat : Nat) : Int) = t) : (onceI f l).Sublist l := by
 revert h
 refine snocS_ind (P := fun l => (∀ t ∈ l, ((f t.toNat : Nat) : Int) = t) → (onceI f l).Sublist l) (fun _ => by simp [onceI]) (fun l y ih h => ?_) l
 have := ih (fun t ht => h t (List.mem_append_left _ ht))
 rw [onceI_snoc]
 split
 ·exact this.trans (List.sublist_append_left _ _)
 ·rw [h y (by simp)]
  exact List.Sublist.append this (List.Sublist.refl _)
theorem merge_same (hA : a.Ok) (h : mu (mergeA a) = mu a) : mergeA a = a := by
 have hs := gen_same (p := fun i => (leadL (simL a) a.nodes.length).getD i false) (F := onceI (numM (simL a) a.nodes.length)) (fun l => onceI_le _ l) h
 have hnum : ∀ t : Int, (∃ k : Nat, t = k ∧ k < a.nodes.length) → ((numM (simL a) a.nodes.length t.toNat : Nat) : Int) = t := by
  rintro t ⟨k, rfl, hk⟩
  rw [tN]
  unfold numM
  rw [(lead_at hk).1 (hs.1 k hk), numC_true (fun i hi => hs.1 i (by omega))]
 refine gen_id hs.1 ?_ (fun i hi => ?_)
 ·exact (onceI_sub a.init (fun t ht => hnum t (hA.first ht))).eq_of_length hs.2.1
 ·exact (onceI_sub (a.at i).to (fun t ht => hnum t (hA.to hi ht))).eq_of_length (hs.2.2 i hi)
theorem prune_mu : mu (pruneA a) ≤ mu a := by
 unfold pruneA
 rw [prune_gen]
 exact gen_mu (fun l => leftL_le _ l)
theorem leftL_sublist (r : List (List Bool)) (l : List Int) : (leftL r l).Sublist l := by
 have h := List.filter_sublist (p := staysB r l) (l := List.range l.length)
 have h2 := h.map (fun i => l.getD i 0)
 have e : (List.range l.length).map (fun i => l.getD i 0) = l := by
  refine List.ext_getElem (by simp) (fun i h1 h2 => ?_)
  simp [List.getD, h2]
 rw [e] at h2
 exact h2
theorem prune_same (h : mu (pruneA a) = mu a) : pruneA a = a := by
 unfold pruneA at h ⊢
 rw [prune_gen] at h ⊢
 have hs := gen_same (p := fun _ => true) (F := leftL (simL a)) (fun l => leftL_le _ l) h
 exact gen_id (fun _ _ => rfl) ((leftL_sublist _ _).eq_of_length hs.2.1) (fun i hi => (leftL_sublist _ _).eq_of_length (hs.2.2 i hi))
theorem GoodA.trim (h : GoodA a) : GoodA (trimA a) := by
 obtain ⟨h1, h2⟩ := trim_chk (chk_iff.2 h) h.inn ⟨h.n256, h.sets⟩ h.ok (useL a)
 exact chk_iff.1 h1
theorem GoodA.merge (h : GoodA a) : GoodA (mergeA a) := by
 refine gen_good (p := fun i => (leadL (simL a) a.nodes.length).getD i false) (F := onceI (numM (simL a) a.nodes.length)) h (fun l hl t ht => ?_)
 obtain ⟨x, hx, rfl⟩ := (onceI_mem _ _ _).1 ht
 obtain ⟨k, rfl, hk⟩ := hl x hx
 rw [tN, ← merge_gen, merge_len]
 have := numC_lt (u := leadL (simL a) a.nodes.length) (Nat.lt_of_le_of_lt (like_le _ _) hk) (like_lead h.ok hk)
 exact isNd_iff.2 ⟨by omega, by unfold numM; omega⟩
theorem GoodA.prune (h : GoodA a) : GoodA (pruneA a) := by
 unfold pruneA
 rw [prune_gen]
 refine gen_good h (fun l hl t ht => ?_)
 obtain ⟨k, rfl, hk⟩ := hl t (leftL_sub ht)
 rw [← prune_gen, prune_len]
 exact isNd_iff.2 ⟨by omega, by omega⟩
theorem trim_lessA (a : Aut) : LessA (trimA a) a := gen_less (F := keptL (useL a)) (fun _l => keptL_le)
theorem merge_lessA (a : Aut) : LessA (mergeA a) a := gen_less (F := onceI (numM (simL a) a.nodes.length)) (fun l => onceI_le _ l)
theorem prune_lessA (a : Aut) : LessA (pruneA a) a := by
 unfold pruneA
 rw [prune_gen]
 exact gen_less (fun l => leftL_le _ l)
end
noncomputable def qstep (a : Aut) : Aut := trimA (pruneA (mergeA (trimA a)))
theorem GoodA.step {a : Aut} (h : GoodA a) : GoodA (qstep a) := h.trim.merge.prune.trim
theorem step_lessA (a : Aut) : LessA (qstep a) a := (trim_lessA _).trans ((prune_lessA _).trans ((merge_lessA _).trans (trim_lessA a)))
theorem step_mu {a : Aut} (h : GoodA a) : mu (qstep a) ≤ mu a ∧ (mu (qstep a) = mu a → qstep a = a) := by
 have h1 := trim_mu (a := a)
 have h2 := merge_mu (a := trimA a)
 have h3 := prune_mu (a := mergeA (trimA a))
 have h4 := trim_mu (a := pruneA (mergeA (trimA a)))
 refine ⟨by unfold qstep; omega, fun e => ?_⟩
 unfold qstep at e ⊢
 have e1 := trim_same h.ok (by omega)
 rw [e1] at e h2 h3 h4 ⊢
 have e2 := merge_same h.ok (by omega)
 rw [e2] at e h3 h4 ⊢
 have e3 := prune_same (a := a) (by omega)
 rw [e3] at e h4 ⊢
 exact e1
noncomputable def ofQN : Nat → Aut → Aut
 | 0, a => a
 | n + 1, a => if qstep a = a then a else ofQN n (qstep a)
noncomputable def ofQ (a : Aut) : Aut := ofQN (mu a) a
theorem ofQN_fuel : ∀ (n m : Nat) (a : Aut), GoodA a → mu a ≤ n → mu a ≤ m → ofQN n a = ofQN m a
 | 0, 0, a, _, _, _ => rfl
 | 0, m + 1, a, h, hn, _ => by
  have e : qstep a = a := (step_mu h).2 (by have := (step_mu h).1; omega)
  unfold ofQN
  rw [if_pos e]
 | n + 1, 0, a, h, _, hm => by
  have e : qstep a = a := (step_mu h).2 (by have := (step_mu h).1; omega)
  unfold ofQN
  rw [if_pos e]
 | n + 1, m + 1, a, h, hn, hm => by
  unfold ofQN
  by_cases e : qstep a = a
  ·rw [if_pos e, if_pos e]
  ·rw [if_neg e, if_neg e]
   have h1 := (step_mu h).1
   have h2 : mu (qstep a) ≠ mu a := fun h3 => e ((step_mu h).2 h3)
   exact ofQN_fuel n m _ h.step (by omega) (by omega)
theorem ofQ_fix {a : Aut} (_h : GoodA a) (e : qstep a = a) : ofQ a = a := by
 unfold ofQ
 cases hm : mu a with
 | zero => rfl
 | succ n => unfold ofQN; rw [if_pos e]
theorem ofQ_step {a : Aut} (h : GoodA a) (e : qstep a ≠ a) : ofQ a = ofQ (qstep a) := by
 have h1 := (step_mu h).1
 have h2 : mu (qstep a) ≠ mu a := fun h3 => e ((step_mu h).2 h3)
 unfold ofQ
 rw [ofQN_fuel (mu a) (mu a + 1) a h lR (by omega)]
 conv => lhs; unfold ofQN
 rw [if_neg e]
 exact ofQN_fuel _ _ _ h.step (by omega) lR
theorem ofQ_ind {a : Aut} (h : GoodA a) {P : Aut → Prop} (h0 : ∀ b, GoodA b → qstep b = b → P b) (h1 : ∀ b, GoodA b → qstep b ≠ b → P (ofQ (qstep b)) → P (ofQ b)) : P (ofQ a) := by
 have key : ∀ n a, mu a ≤ n → GoodA a → P (ofQ a) := by
  intro n
  induction n with
  | zero =>
   intro a hm h
   have e : qstep a = a := (step_mu h).2 (by have := (step_mu h).1; omega)
   rw [ofQ_fix h e]; exact h0 a h e
  | succ n ih =>
   intro a hm h
   by_cases e : qstep a = a
   ·rw [ofQ_fix h e]; exact h0 a h e
   ·have k1 := (step_mu h).1
    have k2 : mu (qstep a) ≠ mu a := fun h3 => e ((step_mu h).2 h3)
    exact h1 a h e (ih _ (by omega) h.step)
 exact key _ a lR h
theorem ofQ_good {a : Aut} (h : GoodA a) : GoodA (ofQ a) ∧ qstep (ofQ a) = ofQ a :=
 ofQ_ind h (P := fun b => GoodA b ∧ qstep b = b) (fun b hb e => ⟨hb, e⟩) (fun b hb e k => by rw [ofQ_step hb e]; exact k)
theorem ofQ_ofQ {a : Aut} (h : GoodA a) : ofQ (ofQ a) = ofQ a := ofQ_fix (ofQ_good h).1 (ofQ_good h).2
theorem ofQ_rel {a : Aut} (h : GoodA a) {R : Aut → Aut → Prop} (hr : ∀ a, R a a) (hs : ∀ a b, GoodA a → R b (qstep a) → R b a) : R (ofQ a) a := by
 have key : ∀ n a, mu a ≤ n → GoodA a → R (ofQ a) a := by
  intro n
  induction n with
  | zero =>
   intro a hm h
   have e : qstep a = a := (step_mu h).2 (by have := (step_mu h).1; omega)
   rw [ofQ_fix h e]; exact hr a
  | succ n ih =>
   intro a hm h
   by_cases e : qstep a = a
   ·rw [ofQ_fix h e]; exact hr a
   ·have k1 := (step_mu h).1
    have k2 : mu (qstep a) ≠ mu a := fun h3 => e ((step_mu h).2 h3)
    rw [ofQ_step h e]
    exact hs _ _ h (ih _ (by omega) h.step)
 exact key _ a lR h
theorem ofQ_lessA {a : Aut} (h : GoodA a) : LessA (ofQ a) a := ofQ_rel h (R := LessA) LessA.refl (fun a _ _ hb => hb.trans (step_lessA a))
theorem ofQ_sets {a : Aut} (h : GoodA a) : (ofQ a).sets = a.sets := ofQ_rel h (R := fun b a => b.sets = a.sets) (fun _ => rfl) (fun _ _ _ hb => hb)
end Go.Proofs.YtiebpncpdbnelaaGreatDoor
namespace Go.Proofs.YtiebpncpdbnelaaGreatDoor
open Go.RowKit
theorem ins_lt {a : Aut} (h : ∀ x ∈ a.nodes, x.inn < 2 ^ 64) (q : Nat) : (insA a).getD q 0 < 2 ^ 64 := by
 rw [insA_at]
 unfold Aut.at
 rw [gD]
 cases hx : a.nodes[q]? with
 | none => simp [ANd.none]
 | some x => exact h x (List.mem_of_getElem? hx)
theorem insA_len (a : Aut) : (insA a).length = a.nodes.length := by simp [insA]
end Go.Proofs.YtiebpncpdbnelaaGreatDoor
