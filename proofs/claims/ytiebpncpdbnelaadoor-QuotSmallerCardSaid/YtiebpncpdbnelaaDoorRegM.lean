/- A region that draws its order, some of whose operations are 'make's that may come in any order: one walk for all orders. No program in sight. -/
import Derived.Test.YtiebpncpdbnelaaDoorMe
import Derived.Test.YtiebpncpdbnelaaDoorMa
namespace Go.Proofs.YtiebpncpdbnelaaDoor
open Go Go.RowKit
structure Mk where
 i : Nat
 d : Nat
 t : TypeId
 l : Nat
 c : Nat
 ob : Obj
def Mk.val (_m : Mk) (n q : Nat) : Value := .slice (some ⟨q, 0, none⟩) n n
section
variable {P : Program} {ops : Array Oper} {Q : Exit → Act → World → Prop} {md : Region.Mode} {S : World → Prop}
def MkOk (P : Program) (ops : Array Oper) (n : Nat) (a : Act) (m : Mk) : Prop :=
 (∃ ty pos after, ops[m.i]? = some ⟨some m.d, .makeSlice m.t (.tmp m.l) (.tmp m.c), ty, pos, after, none⟩) ∧ a.eval (.tmp m.l) = .int .i64 (n : Int) ∧ a.eval (.tmp m.c) = .int .i64 (n : Int) ∧
  ∀ w, (Instr.makeSlice m.t (.int .i64 (n : Int)) (.int .i64 (n : Int))).run P w = .ok (.slice (some ⟨w.1.size, 0, none⟩) n n) (w.alloc m.ob)
theorem eval_put_ne {a : Act} {d s : Nat} {v : Value} (h : d ≠ s) : (a.put (some d) v).eval (.tmp s) = a.eval (.tmp s) := by
 simp only [Act.put, Act.eval, Array.getD_eq_getD_getElem?, Array.getElem?_setIfInBounds_ne h]
theorem wpOp_make {n : Nat} {a : Act} {m : Mk} {w : World} {K : Act → World → Prop} (h : MkOk P ops n a m) (hK : K (a.put (some m.d) (m.val n w.1.size)) (w.alloc m.ob)) : wpOp P ops Q m.i K a w := by
 obtain ⟨⟨ty, pos, after, ho⟩, h1, h2, h3⟩ := h
 refine wpOp_step ho (fun K' hk => ?_)
 have hw : Region.wanted ⟨some m.d, .makeSlice m.t (.tmp m.l) (.tmp m.c), ty, pos, after, none⟩ (yielded ops a.tmps) = true := by simp [Region.wanted]
 rw [if_pos hw]
 unfold Oper.wp execOp
 simp only [Sem.run_bind, h1, h2, h3, Result.andThen_ok]
 exact hk _ _ hK
def markL (l : List Nat) (listed : Array Bool) : Array Bool := l.foldl (fun x i => x.setIfInBounds i true) listed
theorem markL_at {l : List Nat} {listed : Array Bool} {j : Nat} (d : Bool) (hj : j < listed.size) : (markL l listed).getD j d = if j ∈ l then true else listed.getD j d := by
 induction l generalizing listed with
 | nil => simp [markL]
 | cons i l ih =>
  show (markL l (listed.setIfInBounds i true)).getD j d = _
  rw [ih (by simpa using hj)]
  by_cases h : j ∈ l
  ·rw [if_pos h, if_pos (List.mem_cons_of_mem _ h)]
  ·rw [if_neg h]
   by_cases e : i = j
   ·subst e
    rw [if_pos (List.mem_cons_self ..)]
    simp [hj]
   ·rw [getD_set_ne d e, if_neg (fun h' => (List.mem_cons.1 h').elim (fun h' => e h'.symm) h)]
def OnlyL (md : Region.Mode) (ops : Array Oper) (I : List Nat) (listed : Array Bool) : Prop :=
 ∀ T : List Nat, (∀ t ∈ T, t ∈ I) → (∃ i ∈ I, i ∉ T) → ∀ j, j ∈ Region.ready md ops (markL T listed) ↔ (j ∈ I ∧ j ∉ T)
def chkL (md : Region.Mode) (ops : Array Oper) (listed : Array Bool) (I : List Nat) : Bool :=
 decide (listed.size = ops.size) && I.all (fun i => !(listed.getD i true) && decide (i < ops.size)) &&
 (List.range ops.size).all fun j => listed.getD j true || (match ops[j]? with
  | none => true
  | some o => o.after.all (fun e => decide (e.on < ops.size)) && (if I.contains j then o.after.all (fun e => !Region.binds md e || listed.getD e.on false) else
   (o.after.any (fun e => Region.binds md e && !(listed.getD e.on false) && !I.contains e.on)) || I.all (fun i => o.after.any (fun e => Region.binds md e && e.on == i))))
theorem onlyL_of {I : List Nat} {listed : Array Bool} (h : chkL md ops listed I = true) : OnlyL md ops I listed := by
 unfold chkL at h
 rw [Bool.and_eq_true, Bool.and_eq_true, decide_eq_true_eq, List.all_eq_true, List.all_eq_true] at h
 obtain ⟨⟨hs, hI⟩, hj⟩ := h
 have hI' : ∀ i ∈ I, listed.getD i true = false ∧ i < ops.size := fun i hi => by
  have := hI i hi
  rw [Bool.and_eq_true, decide_eq_true_eq] at this
  exact ⟨by simpa using this.1, this.2⟩
 intro T hT hex j
 rw [mem_ready]
 by_cases hjs : j < ops.size
 ·have hat : ∀ k, k < ops.size → ∀ d, (markL T listed).getD k d = if k ∈ T then true else listed.getD k d := fun k hk d => markL_at d (by omega)
  rw [hat j hjs]
  obtain ⟨o, ho⟩ : ∃ o, ops[j]? = some o := ⟨_, Array.getElem?_eq_getElem hjs⟩
  have h1 := hj j (List.mem_range.2 hjs)
  rw [ho] at h1
  constructor
  ·rintro ⟨h2, o', ho', hall⟩
   rw [ho] at ho'
   cases ho'
   have hjT : j ∉ T := fun h => by rw [if_pos h] at h2; cases h2
   rw [if_neg hjT] at h2
   rw [h2, Bool.false_or] at h1
   dsimp only at h1
   rw [Bool.and_eq_true] at h1
   refine ⟨?_, hjT⟩
   apply Classical.byContradiction
   intro hjI
   have hc : I.contains j = false := by simpa using hjI
   have hon : ∀ e ∈ o.after, e.on < ops.size := fun e he => by
    have := Array.all_eq_true_iff_forall_mem.1 h1.1 e he
    simpa using this
   have h3 := h1.2
   rw [hc, if_neg (by simp), Bool.or_eq_true] at h3
   rcases h3 with h3 | h3
   ·obtain ⟨e, he, h4⟩ := Array.any_eq_true'.1 h3
    rw [Bool.and_eq_true, Bool.and_eq_true] at h4
    have h5 := hall e he h4.1.1
    have heT : e.on ∉ T := fun h => by
     have := hT _ h
     simp [this] at h4
    rw [hat _ (hon e he), if_neg heT] at h5
    simp [h5] at h4
   ·obtain ⟨i, hi, hiT⟩ := hex
    have h4 := List.all_eq_true.1 h3 i hi
    obtain ⟨e, he, h5⟩ := Array.any_eq_true'.1 h4
    rw [Bool.and_eq_true, beq_iff_eq] at h5
    have h6 := hall e he h5.1
    rw [h5.2, hat _ (hI' i hi).2, if_neg hiT] at h6
    have h7 := (hI' i hi).1
    have hlt : i < listed.size := by rw [hs]; exact (hI' i hi).2
    simp [hlt] at h6 h7
    rw [h6] at h7; cases h7
  ·rintro ⟨hjI, hjT⟩
   rw [if_neg hjT]
   refine ⟨(hI' j hjI).1, o, ho, fun e he hb => ?_⟩
   rw [(hI' j hjI).1, Bool.false_or] at h1
   dsimp only at h1
   have hc : I.contains j = true := by simpa using hjI
   rw [Bool.and_eq_true, hc, if_pos rfl] at h1
   have hon : e.on < ops.size := by
    have := Array.all_eq_true_iff_forall_mem.1 h1.1 e he
    simpa using this
   have h4 := Array.all_eq_true_iff_forall_mem.1 h1.2 e he
   rw [hb, Bool.not_true, Bool.false_or] at h4
   rw [hat _ hon, h4]
   split <;> rfl
 ·constructor
  ·rintro ⟨_, o, ho, _⟩
   exact absurd (aI.1 ho).1 hjs
  ·rintro ⟨hjI, _⟩
   exact absurd (hI' j hjI).2 hjs
def putM (n : Nat) (q : Nat → Nat) (l : List Mk) (a : Act) : Act := l.foldl (fun a m => a.put (some m.d) (m.val n (q m.i))) a
theorem putM_comm {n : Nat} {q : Nat → Nat} {m : Mk} {v : Value} : ∀ {l : List Mk} {a : Act}, (∀ x ∈ l, x.d ≠ m.d) → putM n q l (a.put (some m.d) v) = (putM n q l a).put (some m.d) v
 | [], _, _ => rfl
 | x :: l, a, h => by
  show putM n q l ((a.put (some m.d) v).put (some x.d) (x.val n (q x.i))) = (putM n q l (a.put (some x.d) (x.val n (q x.i)))).put (some m.d) v
  have hx := h x (List.mem_cons_self ..)
  have e : (a.put (some m.d) v).put (some x.d) (x.val n (q x.i)) = (a.put (some x.d) (x.val n (q x.i))).put (some m.d) v := by
   simp only [Act.put]
   rw [Array.setIfInBounds_comm _ _ (Ne.symm hx)]
  rw [e, putM_comm (fun y hy => h y (List.mem_cons_of_mem _ hy))]
theorem markL_comm {i : Nat} : ∀ {l : List Nat} {x : Array Bool}, i ∉ l → markL l (x.setIfInBounds i true) = (markL l x).setIfInBounds i true
 | [], _, _ => rfl
 | j :: l, x, h => by
  show markL l ((x.setIfInBounds i true).setIfInBounds j true) = (markL l (x.setIfInBounds j true)).setIfInBounds i true
  have hij : i ≠ j := fun e => h (by rw [e]; exact List.mem_cons_self ..)
  rw [Array.setIfInBounds_comm _ _ hij, markL_comm (fun h' => h (List.mem_cons_of_mem _ h'))]
theorem wpAnyH_makes (n : Nat) : ∀ (k : Nat) (Ms : List Mk) (_ : Ms.length = k) (fuel : Nat) (listed : Array Bool) (a : Act) (w : World)
  (_ : (Ms.map (·.d)).Nodup) (_ : (Ms.map (·.i)).Nodup) (_ : ∀ m ∈ Ms, ∀ m' ∈ Ms, m.d ≠ m'.l ∧ m.d ≠ m'.c) (_ : ∀ m ∈ Ms, MkOk P ops n a m) (_ : OnlyL md ops (Ms.map (·.i)) listed)
  (_ : ∀ w', Below w.1.size w w' → S w')
  (_ : ∀ (q : Nat → Nat) (w' : World), Below w.1.size w w' → (∀ m ∈ Ms, w.1.size ≤ q m.i ∧ w'.1[q m.i]? = some m.ob) → (∀ m ∈ Ms, ∀ m' ∈ Ms, m.i ≠ m'.i → q m.i ≠ q m'.i) →
   wpAnyH P md ops Q S fuel (markL (Ms.map (·.i)) listed) (putM n q Ms a) w'),
  wpAnyH P md ops Q S (fuel + k) listed a w
 | 0, Ms, hk, fuel, listed, a, w, _, _, _, _, _, _, h => by
  have : Ms = [] := List.eq_nil_of_length_eq_zero hk
  subst this
  exact h (fun _ => 0) w bR (fun m hm => by cases hm) (fun m hm => by cases hm)
 | k + 1, Ms, hk, fuel, listed, a, w, hd, hi, hl, ho, hO, hS, h => by
  have hr := hO [] (fun t ht => by cases ht) (by
   cases Ms with
   | nil => simp at hk
   | cons m l => exact ⟨m.i, by simp, by simp⟩)
  have hr' : ∀ j, j ∈ Region.ready md ops listed ↔ j ∈ Ms.map (·.i) := fun j => by
   have := hr j
   simpa [markL] using this
  refine ⟨fun h0 => ?_, fun j hj => ?_⟩
  ·exfalso
   cases Ms with
   | nil => simp at hk
   | cons m l =>
    have := (hr' m.i).2 (by simp)
    rw [h0] at this; cases this
  ·obtain ⟨m, hm, rfl⟩ := List.mem_map.1 ((hr' j).1 hj)
   obtain ⟨M1, M2, rfl⟩ := List.append_of_mem hm
   have hd' := hd
   have hi' := hi
   simp only [List.map_append, List.map_cons] at hd' hi'
   rw [List.nodup_append, List.nodup_cons] at hd' hi'
   have hne1 : ∀ x ∈ M1 ++ M2, x.d ≠ m.d := fun x hx e => by
    rcases List.mem_append.1 hx with hx | hx
    ·exact hd'.2.2 x.d (List.mem_map.2 ⟨x, hx, rfl⟩) m.d (List.mem_cons_self ..) e
    ·exact hd'.2.1.1 (List.mem_map.2 ⟨x, hx, e⟩)
   have hne2 : ∀ x ∈ M1 ++ M2, x.i ≠ m.i := fun x hx e => by
    rcases List.mem_append.1 hx with hx | hx
    ·exact hi'.2.2 x.i (List.mem_map.2 ⟨x, hx, rfl⟩) m.i (List.mem_cons_self ..) e
    ·exact hi'.2.1.1 (List.mem_map.2 ⟨x, hx, e⟩)
   have hsub : ∀ x ∈ M1 ++ M2, x ∈ M1 ++ m :: M2 := fun x hx => by
    rcases List.mem_append.1 hx with hx | hx
    ·exact List.mem_append_left _ hx
    ·exact List.mem_append_right _ (List.mem_cons_of_mem _ hx)
   refine wpOp_make (ho m hm) ⟨hS _ (bR.alloc lR _), ?_⟩
   have hbA : Below w.1.size w (w.alloc m.ob) := bR.alloc lR _
   have hA := heap_alloc_new w m.ob
   refine wpAnyH_makes n k (M1 ++ M2) (by simp at hk ⊢; omega) fuel _ _ _ ?_ ?_ ?_ ?_ ?_ ?_ ?_
   ·simp only [List.map_append]
    rw [List.nodup_append]
    exact ⟨hd'.1, hd'.2.1.2, fun x hx y hy => hd'.2.2 x hx y (List.mem_cons_of_mem _ hy)⟩
   ·simp only [List.map_append]
    rw [List.nodup_append]
    exact ⟨hi'.1, hi'.2.1.2, fun x hx y hy => hi'.2.2 x hx y (List.mem_cons_of_mem _ hy)⟩
   ·exact fun x hx y hy => hl x (hsub x hx) y (hsub y hy)
   ·intro x hx
    obtain ⟨o1, o2, o3, o4⟩ := ho x (hsub x hx)
    have hlx := hl m hm x (hsub x hx)
    exact ⟨o1, by rw [eval_put_ne hlx.1]; exact o2, by rw [eval_put_ne hlx.2]; exact o3, o4⟩
   ·intro T hT hex j
    have hmem : ∀ {j}, j ∈ (M1 ++ M2).map (·.i) ↔ (j ∈ (M1 ++ m :: M2).map (·.i) ∧ j ≠ m.i) := by
     intro j
     constructor
     ·intro h'
      obtain ⟨x, hx, rfl⟩ := List.mem_map.1 h'
      exact ⟨List.mem_map.2 ⟨x, hsub x hx, rfl⟩, hne2 x hx⟩
     ·rintro ⟨h', hne⟩
      obtain ⟨x, hx, rfl⟩ := List.mem_map.1 h'
      rcases List.mem_append.1 hx with hx | hx
      ·exact List.mem_map.2 ⟨x, List.mem_append_left _ hx, rfl⟩
      ·rcases List.mem_cons.1 hx with rfl | hx
       ·exact absurd rfl hne
       ·exact List.mem_map.2 ⟨x, List.mem_append_right _ hx, rfl⟩
    have := hO (m.i :: T) (fun t ht => by
      rcases List.mem_cons.1 ht with rfl | ht
      ·exact List.mem_map.2 ⟨m, hm, rfl⟩
      ·exact (hmem.1 (hT t ht)).1) (by
      obtain ⟨i, h1, h2⟩ := hex
      obtain ⟨h3, h4⟩ := hmem.1 h1
      exact ⟨i, h3, fun h' => (List.mem_cons.1 h').elim h4 h2⟩) j
    rw [show markL (m.i :: T) listed = markL T (listed.setIfInBounds m.i true) from rfl] at this
    rw [this, hmem]
    constructor
    ·rintro ⟨h1, h2⟩
     exact ⟨⟨h1, fun e => h2 (by rw [e]; exact List.mem_cons_self ..)⟩, fun h' => h2 (List.mem_cons_of_mem _ h')⟩
    ·rintro ⟨⟨h1, h2⟩, h3⟩
     exact ⟨h1, fun h' => (List.mem_cons.1 h').elim h2 h3⟩
   ·intro w' hb
    exact hS w' (hbA.trans (hb.mono (by simp)))
   ·intro q w' hb hq hqd
    have hb' : Below w.1.size w w' := hbA.trans (hb.mono (by simp))
    have h1 := h (fun i => if i = m.i then w.1.size else q i) w' hb' (fun x hx => by
      by_cases e : x.i = m.i
      ·have hxm : x = m := by
        rcases List.mem_append.1 hx with hx | hx
        ·exact absurd e (hne2 x (List.mem_append_left _ hx))
        ·rcases List.mem_cons.1 hx with rfl | hx
         ·rfl
         ·exact absurd e (hne2 x (List.mem_append_right _ hx))
       subst hxm
       rw [if_pos rfl]
       exact ⟨lR, (hb.block _ (by simp)).trans hA⟩
      ·have hx' : x ∈ M1 ++ M2 := by
        rcases List.mem_append.1 hx with hx | hx
        ·exact List.mem_append_left _ hx
        ·rcases List.mem_cons.1 hx with rfl | hx
         ·exact absurd rfl e
         ·exact List.mem_append_right _ hx
       have := hq x hx'
       simp only [World.size_alloc] at this
       rw [if_neg e]
       exact ⟨by omega, this.2⟩) (fun x hx y hy hxy => by
      have hin : ∀ z ∈ M1 ++ m :: M2, z.i ≠ m.i → z ∈ M1 ++ M2 := fun z hz hne => by
       rcases List.mem_append.1 hz with hz | hz
       ·exact List.mem_append_left _ hz
       ·rcases List.mem_cons.1 hz with rfl | hz
        ·exact absurd rfl hne
        ·exact List.mem_append_right _ hz
      by_cases e1 : x.i = m.i
      ·rw [if_pos e1]
       have e2 : y.i ≠ m.i := fun e2 => hxy (e1.trans e2.symm)
       rw [if_neg e2]
       have := (hq y (hin y hy e2)).1
       simp only [World.size_alloc] at this
       omega
      ·rw [if_neg e1]
       by_cases e2 : y.i = m.i
       ·rw [if_pos e2]
        have := (hq x (hin x hx e1)).1
        simp only [World.size_alloc] at this
        omega
       ·rw [if_neg e2]
        exact hqd x (hin x hx e1) y (hin y hy e2) hxy)
    have hp : ∀ (l : List Mk) (a' : Act), (∀ x ∈ l, x.i ≠ m.i) → putM n (fun i => if i = m.i then w.1.size else q i) l a' = putM n q l a' := by
     intro l
     induction l with
     | nil => intro a' _; rfl
     | cons x l ih =>
      intro a' hx
      have e0 : putM n (fun i => if i = m.i then w.1.size else q i) (x :: l) a' = putM n (fun i => if i = m.i then w.1.size else q i) l (a'.put (some x.d) (x.val n (if x.i = m.i then w.1.size else q x.i))) := rfl
      rw [e0, if_neg (hx x (List.mem_cons_self ..)), ih _ (fun y hy => hx y (List.mem_cons_of_mem _ hy))]
      rfl
    have e1 : putM n (fun i => if i = m.i then w.1.size else q i) (M1 ++ m :: M2) a = putM n q (M1 ++ M2) (a.put (some m.d) (m.val n w.1.size)) := by
     have h2 : putM n (fun i => if i = m.i then w.1.size else q i) (M1 ++ m :: M2) a = putM n (fun i => if i = m.i then w.1.size else q i) M2 ((putM n (fun i => if i = m.i then w.1.size else q i) M1 a).put (some m.d) (m.val n w.1.size)) := by
      unfold putM
      rw [List.foldl_append, List.foldl_cons]
      simp
     rw [h2, hp M1 a (fun x hx => hne2 x (List.mem_append_left _ hx)), hp M2 _ (fun x hx => hne2 x (List.mem_append_right _ hx)), ← putM_comm (fun x hx => hne1 x (List.mem_append_left _ hx))]
     unfold putM
     rw [List.foldl_append]
    have e2 : markL ((M1 ++ m :: M2).map (·.i)) listed = markL ((M1 ++ M2).map (·.i)) (listed.setIfInBounds m.i true) := by
     have hn : m.i ∉ M1.map (·.i) := fun h' => by
      obtain ⟨x, hx, e⟩ := List.mem_map.1 h'
      exact hne2 x (List.mem_append_left _ hx) e
     rw [List.map_append, List.map_append, List.map_cons]
     have h2 : ∀ (l r : List Nat) (x : Array Bool), markL (l ++ r) x = markL r (markL l x) := fun l r x => by simp [markL, List.foldl_append]
     rw [h2, h2, markL_comm hn]
     rfl
    rw [e1, e2] at h1
    exact h1
end
end Go.Proofs.YtiebpncpdbnelaaDoor
