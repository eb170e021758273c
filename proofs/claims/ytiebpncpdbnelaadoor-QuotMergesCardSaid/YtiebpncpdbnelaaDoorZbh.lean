/- Texts that stand one behind the other, in one file. -/
import Derived.Test.YtiebpncpdbnelaaDoorZbg
import Derived.OrdersIn
set_option maxHeartbeats 4000000
set_option maxRecDepth 100000
namespace Go.Proofs.YtiebpncpdbnelaaDoor
structure LessA (b a : Aut) : Prop where
 nodes : b.nodes.length ≤ a.nodes.length
 init : b.init.length ≤ a.init.length
 rows : ∀ x ∈ b.nodes, ∃ y ∈ a.nodes, x.to.length ≤ y.to.length
structure GoodA (a : Aut) : Prop where
 n256 : a.nodes.length ≤ 256
 sets : 0 ≤ a.sets ∧ a.sets ≤ 16
 ok : a.Ok
 inn : ∀ x ∈ a.nodes, x.inn < 2 ^ a.sets.toNat
theorem chkNds_zeroQ {N : Nat} {s : Int} : ∀ {l : List ANd}, chkNds N s l = 0 → ∀ x ∈ l, chkNd N s x = 0
 | [], _, x, hx => by cases hx
 | y :: r, h, x, hx => by
  unfold chkNds at h
  split at h
  ·rename_i hy
   rcases List.mem_cons.1 hx with rfl | hx
   ·exact hy
   ·exact chkNds_zeroQ h x hx
  ·rename_i hy
   exact absurd h hy
theorem chk_iff {a : Aut} : chkA a = 0 ↔ GoodA a := by
 constructor
 ·intro h
  unfold chkA at h
  by_cases h1 : 256 < a.nodes.length ∨ 16 < a.sets
  ·rw [if_pos h1] at h; omega
  ·rw [if_neg h1] at h
   by_cases h2 : a.sets < 0
   ·rw [if_pos h2] at h; omega
   ·rw [if_neg h2] at h
    by_cases h3 : a.init.all (isNd a.nodes.length) = true
    ·rw [if_pos h3] at h
     have hz := chkNds_zeroQ h
     have hx : ∀ x ∈ a.nodes, x.to.all (isNd a.nodes.length) = true ∧ x.inn >>> a.sets.toNat = 0 := fun x hx => by
      have := hz x hx
      unfold chkNd at this
      split at this
      ·rename_i h4
       split at this
       ·rename_i h5; exact ⟨h4, h5⟩
       ·omega
      ·omega
     refine ⟨by omega, by omega, ⟨fun i hi => List.all_eq_true.1 h3 i hi, fun x hx' t ht => List.all_eq_true.1 (hx x hx').1 t ht⟩, fun x hx' => ?_⟩
     have := (hx x hx').2
     rw [Nat.shiftRight_eq_div_pow] at this
     rcases Nat.div_eq_zero_iff.1 this with h | h
     ·have := Nat.two_pow_pos a.sets.toNat; omega
     ·exact h
    ·rw [if_neg h3] at h; omega
 ·intro h
  exact chkA_zero h.n256 h.sets h.ok h.inn
def genU (a : Aut) (p : Nat → Bool) (F : List Int → List Int) : Aut := ⟨a.sets, F a.init, ((List.range a.nodes.length).filter p).map (fun i => (a.at i).put (F (a.at i).to))⟩
def mu (a : Aut) : Nat := a.nodes.length + a.init.length + (a.nodes.map (fun x => x.to.length)).sum
theorem nodes_at (a : Aut) : (List.range a.nodes.length).map a.at = a.nodes := by
 refine List.ext_getElem (by simp) (fun i h1 h2 => ?_)
 simp [Aut.at, List.getD, h2]
theorem sum_filter_le {p : Nat → Bool} {f g : Nat → Nat} : ∀ (l : List Nat), (∀ i ∈ l, f i ≤ g i) → ((l.filter p).map f).sum ≤ (l.map g).sum
 | [], _ => lR
 | x :: l, h => by
  have ih := sum_filter_le (p := p) l (fun i hi => h i (List.mem_cons_of_mem _ hi))
  have hx := h x (List.mem_cons_self ..)
  rw [List.filter_cons]
  split
  ·simp only [List.map_cons, List.sum_cons]; omega
  ·simp only [List.map_cons, List.sum_cons]; omega
theorem sum_eq {f g : Nat → Nat} : ∀ (l : List Nat), (∀ i ∈ l, f i ≤ g i) → (l.map f).sum = (l.map g).sum → ∀ i ∈ l, f i = g i
 | [], _, _, i, hi => by cases hi
 | x :: l, h, e, i, hi => by
  have h0 := sum_filter_le (p := fun _ => true) l (fun i hi => h i (List.mem_cons_of_mem _ hi))
  rw [List.filter_eq_self.2 (fun _ _ => rfl)] at h0
  have hx := h x (List.mem_cons_self ..)
  simp only [List.map_cons, List.sum_cons] at e
  rcases List.mem_cons.1 hi with rfl | hi
  ·omega
  ·exact sum_eq l (fun i hi => h i (List.mem_cons_of_mem _ hi)) (by omega) i hi
theorem filter_all {p : Nat → Bool} {n : Nat} (h : ((List.range n).filter p).length = n) : ∀ i, i < n → p i = true := by
 have : (List.range n).filter p = List.range n := List.filter_sublist.eq_of_length (by rw [h, List.length_range])
 intro i hi
 exact List.filter_eq_self.1 this i (List.mem_range.2 hi)
section
variable {a : Aut} {p : Nat → Bool} {F : List Int → List Int}
theorem gen_len : (genU a p F).nodes.length ≤ a.nodes.length := by
 unfold genU
 rw [List.length_map]
 have := List.length_filter_le p (List.range a.nodes.length)
 rwa [List.length_range] at this
theorem gen_less (hF : ∀ l, (F l).length ≤ l.length) : LessA (genU a p F) a := by
 refine ⟨gen_len, hF _, fun x hx => ?_⟩
 obtain ⟨i, hi, rfl⟩ := List.mem_map.1 hx
 exact ⟨a.at i, at_mem (List.mem_range.1 (List.mem_filter.1 hi).1), hF _⟩
theorem gen_sum (hF : ∀ l, (F l).length ≤ l.length) : ((genU a p F).nodes.map (fun x => x.to.length)).sum ≤ (a.nodes.map (fun x => x.to.length)).sum := by
 have h1 := sum_filter_le (p := p) (f := fun i => (F (a.at i).to).length) (g := fun i => (a.at i).to.length) (List.range a.nodes.length) (fun i _ => hF _)
 have e1 : ((genU a p F).nodes.map (fun x => x.to.length)) = ((List.range a.nodes.length).filter p).map (fun i => (F (a.at i).to).length) := by
  unfold genU
  rw [List.map_map]; rfl
 have e2 : a.nodes.map (fun x => x.to.length) = (List.range a.nodes.length).map (fun i => (a.at i).to.length) := by
  conv => lhs; rw [← nodes_at a]
  rw [List.map_map]; rfl
 rw [e1, e2]; exact h1
theorem gen_mu (hF : ∀ l, (F l).length ≤ l.length) : mu (genU a p F) ≤ mu a := by
 have h1 := (gen_less (a := a) (p := p) hF).nodes
 have h2 := (gen_less (a := a) (p := p) hF).init
 have h3 := gen_sum (a := a) (p := p) hF
 unfold mu
 omega
theorem gen_same (hF : ∀ l, (F l).length ≤ l.length) (h : mu (genU a p F) = mu a) : (∀ i, i < a.nodes.length → p i = true) ∧ (F a.init).length = a.init.length ∧ ∀ i, i < a.nodes.length → (F (a.at i).to).length = (a.at i).to.length := by
 have h1 := (gen_less (a := a) (p := p) hF).nodes
 have h2 := (gen_less (a := a) (p := p) hF).init
 have h3 := gen_sum (a := a) (p := p) hF
 unfold mu at h
 have k1 : (genU a p F).nodes.length = a.nodes.length := by omega
 have k2 : (genU a p F).init.length = a.init.length := by omega
 have k3 : ((genU a p F).nodes.map (fun x => x.to.length)).sum = (a.nodes.map (fun x => x.to.length)).sum := by omega
 have hall : ∀ i, i < a.nodes.length → p i = true := filter_all (by unfold genU at k1; rw [List.length_map] at k1; exact k1)
 refine ⟨hall, k2, fun i hi => ?_⟩
 have e1 : ((genU a p F).nodes.map (fun x => x.to.length)) = (List.range a.nodes.length).map (fun i => (F (a.at i).to).length) := by
  unfold genU
  rw [List.map_map, List.filter_eq_self.2 (fun i hi => hall i (List.mem_range.1 hi))]; rfl
 have e2 : a.nodes.map (fun x => x.to.length) = (List.range a.nodes.length).map (fun i => (a.at i).to.length) := by
  conv => lhs; rw [← nodes_at a]
  rw [List.map_map]; rfl
 rw [e1, e2] at k3
 exact sum_eq _ (fun i _ => hF _) k3 i (List.mem_range.2 hi)
theorem gen_id (h1 : ∀ i, i < a.nodes.length → p i = true) (h2 : F a.init = a.init) (h3 : ∀ i, i < a.nodes.length → F (a.at i).to = (a.at i).to) : genU a p F = a := by
 unfold genU
 rw [List.filter_eq_self.2 (fun i hi => h1 i (List.mem_range.1 hi)), h2]
 have : (List.range a.nodes.length).map (fun i => (a.at i).put (F (a.at i).to)) = a.nodes := by
  conv => rhs; rw [← nodes_at a]
  refine List.map_congr_left (fun i hi => ?_)
  rw [h3 i (List.mem_range.1 hi)]; rfl
 rw [this]
theorem gen_good (h : GoodA a) (hF : ∀ l : List Int, (∀ t ∈ l, ∃ k : Nat, t = k ∧ k < a.nodes.length) → ∀ t ∈ F l, isNd (genU a p F).nodes.length t = true) : GoodA (genU a p F) := by
 refine ⟨Nat.le_trans gen_len h.n256, h.sets, ⟨fun t ht => hF a.init (fun t ht => h.ok.first ht) t ht, fun x hx t ht => ?_⟩, fun x hx => ?_⟩
 ·obtain ⟨i, hi, rfl⟩ := List.mem_map.1 hx
  exact hF _ (fun t ht => h.ok.to (List.mem_range.1 (List.mem_filter.1 hi).1) ht) t ht
 ·obtain ⟨i, hi, rfl⟩ := List.mem_map.1 hx
  exact h.inn (a.at i) (at_mem (List.mem_range.1 (List.mem_filter.1 hi).1))
end
section
variable {a : Aut}
theorem merge_gen (r : List (List Bool)) : mergeU a r = genU a (fun i => (leadL r a.nodes.length).getD i false) (onceI (numM r a.nodes.length)) := rfl
theorem prune_gen (r : List (List Bool)) : pruneU a r = genU a (fun _ => true) (leftL r) := by
 unfold pruneU genU
 rw [List.filter_eq_self.2 (fun _ _ => rfl)]
 congr 1
 conv => lhs; rw [← nodes_at a]
 rw [List.map_map]; rfl
theorem trim_mu : mu (trimA a) ≤ mu a := gen_mu (F := keptL (useL a)) (fun _l => keptL_le)
theorem trim_same (hA : a.Ok) (h : mu (trimA a) = mu a) : trimA a = a := trimU_true hA (gen_same (p := fun i => (useL a).getD i false) (F := keptL (useL a)) (fun _l => keptL_le) h).1
theorem merge_mu : mu (mergeA a) ≤ mu a := gen_mu (F := onceI (numM (simL a) a.nodes.length)) (fun l => onceI_le _ l)
theorem onceI_sub {f : Nat → Nat} (l : List Int) (h : ∀ t ∈ l, ((f t.toNat : Nat) : Int) = t) : (onceI f l).Sublist l := by
 revert h
 refine snocS_ind (P := fun l => (∀ t ∈ l, ((f t.toNat : Nat) : Int) = t) → (onceI f l).Sublist l) (fun _ => by simp [onceI]) (fun l y ih h => ?_) l
 have := ih (fun t ht => h t (List.mem_append_left _ ht))
 rw [onceI_snoc]
 split
 ·exact this.trans (List.sublist_append_left _ _)
 ·rw [h y (by simp)]
  exact List.Sublist.append this (List.Sublist.refl _)
theorem merge_same (hA : a.Ok) (h : mu (mergeA a) = mu a) : mergeA a = a := by
 have hs := gen_same (p := fun i => (leadL (simL a) a.nodes.length).getD i false) (F := onceI (numM (simL a) a.nodes.length)) (fun l => onceI_le _ l) h
 have hnum : ∀ t : Int, (∃ k : Nat, t = k ∧ k < a.nodes.length) → ((numM (simL a) a.nodes.length t.toNat : Nat) : Int) = t := by
  rintro t ⟨k, rfl, hk⟩
  rw [tN]
  unfold numM
  rw [(lead_at hk).1 (hs.1 k hk), numC_true (fun i hi => hs.1 i (by omega))]
 refine gen_id hs.1 ?_ (fun i hi => ?_)
 ·exact (onceI_sub a.init (fun t ht => hnum t (hA.first ht))).eq_of_length hs.2.1
 ·exact (onceI_sub (a.at i).to (fun t ht => hnum t (hA.to hi ht))).eq_of_length (hs.2.2 i hi)
theorem prune_mu : mu (pruneA a) ≤ mu a := by
 unfold pruneA
 rw [prune_gen]
 exact gen_mu (fun l => leftL_le _ l)
theorem leftL_sublist (r : List (List Bool)) (l : List Int) : (leftL r l).Sublist l := by
 have h := List.filter_sublist (p := staysB r l) (l := List.range l.length)
 have h2 := h.map (fun i => l.getD i 0)
 have e : (List.range l.length).map (fun i => l.getD i 0) = l := by
  refine List.ext_getElem (by simp) (fun i h1 h2 => ?_)
  simp [List.getD, h2]
 rw [e] at h2
 exact h2
theorem prune_same (h : mu (pruneA a) = mu a) : pruneA a = a := by
 unfold pruneA at h ⊢
 rw [prune_gen] at h ⊢
 have hs := gen_same (p := fun _ => true) (F := leftL (simL a)) (fun l => leftL_le _ l) h
 exact gen_id (fun _ _ => rfl) ((leftL_sublist _ _).eq_of_length hs.2.1) (fun i hi => (leftL_sublist _ _).eq_of_length (hs.2.2 i hi))
theorem GoodA.trim (h : GoodA a) : GoodA (trimA a) := by
 obtain ⟨h1, h2⟩ := trim_chk (chk_iff.2 h) h.inn ⟨h.n256, h.sets⟩ h.ok (useL a)
 exact chk_iff.1 h1
theorem GoodA.merge (h : GoodA a) : GoodA (mergeA a) := by
 refine gen_good (p := fun i => (leadL (simL a) a.nodes.length).getD i false) (F := onceI (numM (simL a) a.nodes.length)) h (fun l hl t ht => ?_)
 obtain ⟨x, hx, rfl⟩ := (onceI_mem _ _ _).1 ht
 obtain ⟨k, rfl, hk⟩ := hl x hx
 rw [tN, ← merge_gen, merge_len]
 have := numC_lt (u := leadL (simL a) a.nodes.length) (Nat.lt_of_le_of_lt (like_le _ _) hk) (like_lead h.ok hk)
 exact isNd_iff.2 ⟨by omega, by unfold numM; omega⟩
theorem GoodA.prune (h : GoodA a) : GoodA (pruneA a) := by
 unfold pruneA
 rw [prune_gen]
 refine gen_good h (fun l hl t ht => ?_)
 obtain ⟨k, rfl, hk⟩ := hl t (leftL_sub ht)
 rw [← prune_gen, prune_len]
 exact isNd_iff.2 ⟨by omega, by omega⟩
theorem merge_lessA (a : Aut) : LessA (mergeA a) a := gen_less (F := onceI (numM (simL a) a.nodes.length)) (fun l => onceI_le _ l)
end
noncomputable def qstep (a : Aut) : Aut := trimA (pruneA (mergeA (trimA a)))
theorem GoodA.step {a : Aut} (h : GoodA a) : GoodA (qstep a) := h.trim.merge.prune.trim
theorem step_mu {a : Aut} (h : GoodA a) : mu (qstep a) ≤ mu a ∧ (mu (qstep a) = mu a → qstep a = a) := by
 have h1 := trim_mu (a := a)
 have h2 := merge_mu (a := trimA a)
 have h3 := prune_mu (a := mergeA (trimA a))
 have h4 := trim_mu (a := pruneA (mergeA (trimA a)))
 refine ⟨by unfold qstep; omega, fun e => ?_⟩
 unfold qstep at e ⊢
 have e1 := trim_same h.ok (by omega)
 rw [e1] at e h2 h3 h4 ⊢
 have e2 := merge_same h.ok (by omega)
 rw [e2] at e h3 h4 ⊢
 have e3 := prune_same (a := a) (by omega)
 rw [e3] at e h4 ⊢
 exact e1
noncomputable def ofQN : Nat → Aut → Aut
 | 0, a => a
 | n + 1, a => if qstep a = a then a else ofQN n (qstep a)
noncomputable def ofQ (a : Aut) : Aut := ofQN (mu a) a
theorem ofQN_fuel : ∀ (n m : Nat) (a : Aut), GoodA a → mu a ≤ n → mu a ≤ m → ofQN n a = ofQN m a
 | 0, 0, a, _, _, _ => rfl
 | 0, m + 1, a, h, hn, _ => by
  have e : qstep a = a := (step_mu h).2 (by have := (step_mu h).1; omega)
  unfold ofQN
  rw [if_pos e]
 | n + 1, 0, a, h, _, hm => by
  have e : qstep a = a := (step_mu h).2 (by have := (step_mu h).1; omega)
  unfold ofQN
  rw [if_pos e]
 | n + 1, m + 1, a, h, hn, hm => by
  unfold ofQN
  by_cases e : qstep a = a
  ·rw [if_pos e, if_pos e]
  ·rw [if_neg e, if_neg e]
   have h1 := (step_mu h).1
   have h2 : mu (qstep a) ≠ mu a := fun h3 => e ((step_mu h).2 h3)
   exact ofQN_fuel n m _ h.step (by omega) (by omega)
theorem ofQ_fix {a : Aut} (_h : GoodA a) (e : qstep a = a) : ofQ a = a := by
 unfold ofQ
 cases hm : mu a with
 | zero => rfl
 | succ n => unfold ofQN; rw [if_pos e]
theorem ofQ_step {a : Aut} (h : GoodA a) (e : qstep a ≠ a) : ofQ a = ofQ (qstep a) := by
 have h1 := (step_mu h).1
 have h2 : mu (qstep a) ≠ mu a := fun h3 => e ((step_mu h).2 h3)
 unfold ofQ
 rw [ofQN_fuel (mu a) (mu a + 1) a h lR (by omega)]
 conv => lhs; unfold ofQN
 rw [if_neg e]
 exact ofQN_fuel _ _ _ h.step (by omega) lR
end Go.Proofs.YtiebpncpdbnelaaDoor
namespace Go.Proofs.YtiebpncpdbnelaaDoor
open Go.RowKit
theorem ins_lt {a : Aut} (h : ∀ x ∈ a.nodes, x.inn < 2 ^ 64) (q : Nat) : (insA a).getD q 0 < 2 ^ 64 := by
 rw [insA_at]
 unfold Aut.at
 rw [gD]
 cases hx : a.nodes[q]? with
 | none => simp [ANd.none]
 | some x => exact h x (List.mem_of_getElem? hx)
theorem insA_len (a : Aut) : (insA a).length = a.nodes.length := by simp [insA]
end Go.Proofs.YtiebpncpdbnelaaDoor
namespace Go.Proofs.YtiebpncpdbnelaaDoor
open Go.RowKit
theorem left30_any (u : List Bool) (l : List Int) (at_ : List Int) (A : Option Addr) (n c : Nat) (b1 b2 S q N : Nat) (Wd : List Nat) (Aa : Option Addr) (ca : Nat) (w : World) (B : Nat) (h1 : w.cell? ⟨b1, 0, none⟩ = some (.pointer (some ⟨S, 0, none⟩))) (hb1 : b1 < w.1.size)
  (h2 : w.cell? ⟨b2, 0, none⟩ = some (.slice Aa N ca)) (hb2 : b2 < w.1.size) (hX : BSet S q N Wd w) (hbit : ∀ i, i < N → bitOf Wd i = u.getD i false) (hat : ∀ i, i < N → u.getD i false = true → at_.getD i 0 = (numC u i : Int)) (hsa : Sl w B 1 Aa N ca (icells at_)) (hs : Sl w B 1 A n c (icells l)) (hB : B ≤ w.1.size) (hl : ∀ t ∈ l, isNd N t = true) (hln : l.length ≤ 100000000) :
  Calls Tryd.prog 62 #[.slice A n c, .pointer (some ⟨b1, 0, none⟩), .pointer (some ⟨b2, 0, none⟩)] w (IntsPost w (keptL u l)) := by
 have hn : n = l.length := by have := hs.len; rw [icells_len] at this; omega
 have hnA : N = at_.length := by have := hsa.len; rw [icells_len] at this; omega
 have hcap := hs.cap
 have hmax := hs.max
 have hcapa := hsa.cap
 have hmaxa := hsa.max
 unfold maxLen at hmax hmaxa
 subst hn
 have HS := dh hs
 have HSA := dh hsa
 have HNA := dh hnA
 have HX := dh hX
 have H1 := dh h1
 have H2 := dh h2
 have HBIT := dh hbit
 have HAT := dh hat
 have HL := dh hl
 clear hs hsa hnA hX h1 h2 hbit hat hl
 go_enter Tryd.func62, Tryd.ntmps62
 go_wp2_with fail
 go_loopw [10, 5] (fun i o wr => ∃ m : Nat, m ≤ l.length ∧ i = .int .i64 (m : Int) ∧ Hid (wr.ownsRow w.1.size 3 1 o (keptL u (l.take m)).length (icells (keptL u (l.take m)))) ∧ Hid (Below w.1.size w wr)) (fun i _ _ => l.length - (intOf i).toNat)
 case atStart => exact ⟨0, by omega, rfl, dh (World.ownsRow_nil _ _ _ _), dh bR⟩
 case round =>
  obtain ⟨m, hm, rfl, HO, HB⟩ := hrel
  have hz := HB.out.size
  by_cases hlt : m < l.length
  ·have wm : IntKind.i64.wrap ((m : Int) + 1) = (m : Int) + 1 := by rw [wI]; omega
   have hm0 : (0 : Int) ≤ (m : Int) := by omega
   have hm1 : (m : Int) < (l.length : Int) := by omega
   obtain ⟨b, off, rfl, hbl, hcl⟩ := rd_intS (HS.out.below HB.out hB) hlt
   obtain ⟨j, hj, hjN⟩ := isNd_nat (HL.out l[m] (mM hlt))
   have HSN := dh (keptL_snoc (u := u) hlt)
   have hXr := HX.out.below HB.out
   have HH := dh (bhas_any S q N Wd j wr hXr hjN)
   have c1 : wr.cell? ⟨b1, 0, none⟩ = some (.pointer (some ⟨S, 0, none⟩)) := bC HB.out hb1 H1.out
   have c2 : wr.cell? ⟨b2, 0, none⟩ = some (.slice Aa N ca) := bC HB.out hb2 H2.out
   have hbt := HBIT.out j hjN
   have hat := HAT.out j hjN
   obtain ⟨bA, oA, rfl, hbA, hclA⟩ := rd_intS (k := j) (HSA.out.below HB.out hB) (by rw [← HNA.out]; exact hjN)
   have hgA : at_.getD j 0 = at_[j]'(by rw [← HNA.out]; exact hjN) := by rw [gD, gE (by rw [← HNA.out]; exact hjN)]; rfl
   have hj0 : (0 : Int) ≤ (j : Int) := by omega
   have hj1 : (j : Int) < (N : Int) := by omega
   rw [hj] at hcl HSN
   rw [tN] at HSN
   rw [← hgA] at hclA
   have hle : (keptL u (l.take m)).length ≤ m := Nat.le_trans keptL_le (by rw [List.length_take]; omega)
   clear hj hXr hgA
   go_wp2_with fail
   refine HH.out.mono ?_
   rw [hbt]
   cases hub : u.getD j false
   ·rintro e w' ⟨rfl, rfl⟩
    have HPx : Hid (keptL u (l.take (m + 1)) = keptL u (l.take m)) := dh (by rw [HSN.out, hub]; simp)
    clear hub hat hbt
    go_wp2_with fail
    exact ⟨⟨m + 1, by omega, congrArg (Value.int .i64) (by omega), dh (by rw [HPx.out]; exact HO.out), HB⟩, by simp [intOf]; omega⟩
   ·rintro e w' ⟨rfl, rfl⟩
    have HPx : Hid (keptL u (l.take (m + 1)) = keptL u (l.take m) ++ [(numC u j : Int)]) := dh (by rw [HSN.out, hub]; simp)
    rw [hat hub] at hclA
    clear hub hat hbt HSN
    generalize keptL u (l.take m) = Y at *
    obtain ⟨Au, cu, rfl, -⟩ := own_sl HO.out
    have hnw := dh (heap_alloc_new wr (.cells #[.int .i64 (numC u j : Int)] 3))
    go_wp2_with (at_builtin; refine wpList_push rfl (.tmp 17) (.tmp 22) 22 rfl w.1.size 3 1 8 sliceInt _ _ _ (HO.out.alloc _) rfl wr.1.size #[.int .i64 (numC u j : Int)] rfl hnw.out rfl (by simp [Value.oneCell']) (by omega) (by omega) (by simp; omega) ?_; intro u' wA hown3 ht3 hat3 hne3; obtain ⟨g', cap', rfl, _⟩ := own_form hown3 (by omega); have HOA := dh hown3; have HBA := dh (HB.out.trans ((Tch.trans ((Tch.refl _ wr).alloc _) ht3 (fun _ _ h => h)).below hz (fun k hk e => by have := (HO.out.lt k e).1; omega))))
    exact ⟨⟨m + 1, by omega, congrArg (Value.int .i64) (by omega), dh (by rw [HPx.out, lA, icells_append]; simpa [icells] using HOA.out), HBA⟩, by simp [intOf]; omega⟩
  ·have hme : m = l.length := by omega
   have HO2 : Hid (wr.ownsRow w.1.size 3 1 u5 (keptL u l).length (icells (keptL u l))) := dh (by have := HO.out; rwa [hme, List.take_length] at this)
   clear HO
   go_wp2_with fail
   go_ret
   exact ⟨_, rfl, HO2.out, HB.out⟩
end Go.Proofs.YtiebpncpdbnelaaDoor
namespace Go.Proofs.YtiebpncpdbnelaaDoor
open Go.RowKit
def SepA (w : World) (a : Aut) (Ai : Option Addr) (ni ci : Nat) (An : Option Addr) (nn cn : Nat) : Prop :=
 ∀ (S : Nat → Prop) (W2 : World), Tch S w W2 → (∀ g, S g → g < w.1.size → ∃ cs, w.1[g]? = some (.cells cs 25 (0, 0))) → AutRd W2 W2.1.size a Ai ni ci An nn cn
def AutOneS (w : World) (a : Aut) (en : Ending) (w' : World) : Prop :=
 ∃ Ai ni ci An nn cn, en = .returned (.agg #[.int .i64 a.sets, .slice Ai ni ci, .slice An nn cn]) ∧ AutRd w' w'.1.size a Ai ni ci An nn cn ∧ Below w.1.size w w' ∧ SepA w' a Ai ni ci An nn cn
theorem SepA.below {w w' : World} {a : Aut} {Ai : Option Addr} {ni ci : Nat} {An : Option Addr} {nn cn : Nat} (h : SepA w a Ai ni ci An nn cn) (hb : Below w.1.size w w') : SepA w' a Ai ni ci An nn cn := fun S W2 ht hS =>
 h (fun g => S g) W2 (Tch.trans (⟨hb.os, hb.tape, hb.output, hb.size, fun i hi _ => hb.block i hi⟩ : Tch S w w') ht (fun _ _ e => e)) (fun g hg hl => by
  obtain ⟨cs, hc⟩ := hS g hg (Nat.lt_of_lt_of_le hl hb.size)
  exact ⟨cs, (hb.block g hl).symm.trans hc⟩)
theorem SepA.rd {w : World} {a : Aut} {Ai : Option Addr} {ni ci : Nat} {An : Option Addr} {nn cn : Nat} (h : SepA w a Ai ni ci An nn cn) : AutRd w w.1.size a Ai ni ci An nn cn := h (fun _ => False) w (Tch.refl _ w) (fun _ e => e.elim)
theorem sep_nil (w : World) : SepA w Aut.zero none 0 0 none 0 0 := fun _ W2 _ _ => autRd_nil W2 _
theorem OutM.sep {base ob : Nat} {sets : Int} {Ai An : Option Addr} {ni ci nn cn : Nat} {I : List Int} {ns : List ANd} {xs : List Value} {w : World} (h : OutM base ob sets (.slice Ai ni ci) I (.slice An nn cn) ns xs w) : SepA w ⟨sets, I, ns⟩ Ai ni ci An nn cn := fun S W2 ht hS => by
 have hno : ∀ {b' : Nat} {e : TypeId} {size n : Nat} {v : Value} {ys : List Value}, w.ownsRow b' e size v n ys → e ≠ 25 → ∀ g, v.ownBlock = some g → ¬ S g := fun ho hne g hg e => by
  obtain ⟨cs, hc⟩ := hS g e (ho.lt g hg).2
  exact own_ne_blk ho hc hne hg
 have h1 := own_tch h.init ht (hno h.init (by decide))
 have h2 := h.nodes.tch ht (hno h.nodes.own (by decide)) (fun u n ys ho => hno ho (by decide))
 obtain ⟨A1, c1, e1, s1⟩ := own_sl h1
 obtain ⟨A2, c2, e2, s2⟩ := own_sl h2.own
 cases e1
 cases e2
 refine ⟨rfl, rfl, s1, xs, s2, fun k x hk => ?_⟩
 obtain ⟨u, e0, e1, e2, e3, ho⟩ := h2.at_ k x hk
 obtain ⟨A, c, rfl, hs⟩ := own_sl ho
 exact ⟨A, c, e0, e1, e2, e3, hs⟩
theorem AutRd.tchA {w w' : World} {B : Nat} {a : Aut} {Ai An : Option Addr} {ni ci nn cn : Nat} {S : Nat → Prop} (h : AutRd w B a Ai ni ci An nn cn) (ht : Tch S w w') (hB : B ≤ w.1.size) (hS : ∀ b, b < B → ¬ S b) : AutRd w' B a Ai ni ci An nn cn := by
 obtain ⟨xs, h1, h2⟩ := h.nodes
 refine ⟨h.eni, h.enn, h.init.tch ht hB hS, xs, h1.tch ht hB hS, fun k x hk => ?_⟩
 obtain ⟨A, c, e0, e1, e2, e3, t⟩ := h2 k x hk
 exact ⟨A, c, e0, e1, e2, e3, t.tch ht hB hS⟩
end Go.Proofs.YtiebpncpdbnelaaDoor
namespace Go.Proofs.YtiebpncpdbnelaaDoor
open Go
section
variable {P : Program} {ops : Array Oper} {Q : Exit → Act → World → Prop} {md : Region.Mode} {S : World → Prop} {z : Nat}
def noDeferB (ops : Array Oper) : Bool := ops.toList.all (fun o => match o.op with | .defer _ => false | _ => true)
theorem noDefer_spec (h : noDeferB ops = true) {i : Nat} {o : Oper} (ho : ops[i]? = some o) : ∀ c, o.op ≠ .defer c := by
 intro c hc
 have hm : o ∈ ops.toList := by
  rw [← Array.getElem?_toList] at ho
  exact List.mem_of_getElem? ho
 have := List.all_eq_true.1 h o hm
 rw [hc] at this
 cases this
theorem rowsIn_wide' {r n : Nat} {row : String} {args : Array Value} {w : World} {R : Value → World → Prop} (h : Rows P row args w R) : RowsIn (Fence.wide.inRound r) n P row args w R :=
 fun c cs _ => let ⟨v, w', r', s⟩ := h c cs; ⟨v, w', r', stepsIn_wide.2 s⟩
theorem opIn_of {r n i : Nat} {K : Act → World → Prop} {a : Act} {w : World} (hd : noDeferB ops = true) (hl : ¬ LetsOut Q) (h : wpOp P ops Q i K a w) : wpOpIn (Fence.wide.inRound r) n P ops Q i K a w := by
 unfold wpOp at h
 unfold wpOpIn
 cases ho : ops[i]? with
 | none => rw [ho] at h; exact h
 | some o =>
  rw [ho] at h
  simp only at h ⊢
  split
  ·rename_i hw
   rw [if_pos hw] at h
   rcases h with h | h
   ·refine ⟨fun _ _ => trivial, ?_⟩
    rw [Oper.semAt_eq _ _ _ (noDefer_spec hd ho)]
    unfold Oper.wp at h
    revert h
    generalize (execOp a.eval o).run P w = res
    intro h
    cases res with
    | ok nx w' =>
     cases nx with
     | value v => exact h
     | skip => exact h
     | defer d => exact h
     | enter f args => exact ⟨fun hh => (by cases hh), CallsIn.inRound r (callsIn_wide.2 h)⟩
     | row row args => exact ⟨fun hh => (by cases hh), rowsIn_wide' h⟩
     | _ => exact h.elim
    | halt hh w' =>
     cases hh with
     | panic v => exact h
     | _ => exact h.elim
   ·exact absurd h.2 hl
  ·rename_i hw
   rw [if_neg hw] at h
   exact ⟨fun _ _ => trivial, h⟩
theorem anyIn_of {r n : Nat} (hd : noDeferB ops = true) (hl : ¬ LetsOut Q) : ∀ (fuel : Nat) (listed : Array Bool) (a : Act) (w : World), wpAny P md ops Q fuel listed a w → wpAnyIn (Fence.wide.inRound r) n P md ops Q fuel listed a w
 | 0, _, _, _, h => h
 | fuel + 1, _, _, _, h => ⟨h.1, fun i hi => wpOpIn_mono (fun a' w' h' => anyIn_of hd hl fuel _ a' w' h') (opIn_of hd hl (h.2 i hi))⟩
theorem wpIn_region_U {r n id : Nat} {a : Act} {w : World} (z : Nat) (hm : P.follows .mixedOrders = true) (hd : noDeferB ops = true) (hl : ¬ LetsOut Q) (hS : S w.drew)
  (h : S w.drew → wpAnyU P .any ops Q S z ops.size (Array.replicate ops.size false) a w.drew) : (Code.region id ops true).wpIn (Fence.wide.inRound r) n P Q a w :=
 wpIn_region_any hm (anyIn_of hd hl _ _ _ _ (wpAny_of_U _ _ _ _ (h hS)))
theorem wp_only {c : Code} {K : Act → World → Prop} {Q' : Exit → Act → World → Prop} {a : Act} {w : World} (h : c.wp P (Exit.then K (fun _ _ _ => False)) a w) : c.wp P (Exit.then K Q') a w :=
 wp_mono h (fun e a w hq => by cases e <;> first | exact hq | exact hq.elim)
theorem wpIn_norm {F : Fence} {n : Nat} {c : Code} {Q' : Exit → Act → World → Prop} {a : Act} {w : World} (h : c.wpIn F n P (Exit.then (fun a w => Q' .normal a w) (fun _ _ _ => False)) a w) : c.wpIn F n P Q' a w :=
 wpIn_mono h (fun e a w hq => by cases e <;> first | exact hq | exact hq.elim)
theorem postT_ok {α : Type} {I : List α × (Nat → Prop) → World → Prop} {Ix : Code → List α × (Nat → Prop) → World → Prop} {xs : List α} {N N' : Nat → Prop} {W W' : World} {a : Act} (h1 : Rnd N W N' W') (h2 : I (xs, N') W') : postT I Ix xs N W .normal a W' := ⟨N', h1, h2⟩
theorem lets_none {K : Act → World → Prop} : ¬ LetsOut (Exit.then K (fun _ _ _ => False)) := fun ⟨_, _, h⟩ => h
end
end Go.Proofs.YtiebpncpdbnelaaDoor
