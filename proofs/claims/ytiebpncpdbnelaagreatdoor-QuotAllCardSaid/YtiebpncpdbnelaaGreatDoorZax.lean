/- Texts that stand one behind the other, in one file. -/
import Derived.Test.YtiebpncpdbnelaaGreatDoorSc4
import Derived.Test.YtiebpncpdbnelaaGreatDoorZat
set_option maxHeartbeats 8000000
set_option maxRecDepth 100000
namespace Go.Proofs.YtiebpncpdbnelaaGreatDoor
open Go Go.RowKit
structure Mk where
 i : Nat
 d : Nat
 t : TypeId
 l : Nat
 c : Nat
 ob : Obj
def Mk.val (_m : Mk) (n q : Nat) : Value := .slice (some ⟨q, 0, none⟩) n n
section
variable {P : Program} {ops : Array Oper} {Q : Exit → Act → World → Prop} {md : Region.Mode} {S : World → Prop}
def MkOk (P : Program) (ops : Array Oper) (n : Nat) (a : Act) (m : Mk) : Prop :=
 (∃ ty pos after, ops[m.i]? = some ⟨some m.d, .makeSlice m.t (.tmp m.l) (.tmp m.c), ty, pos, after, none⟩) ∧ a.eval (.tmp m.l) = .int .i64 (n : Int) ∧ a.eval (.tmp m.c) = .int .i64 (n : Int) ∧
  ∀ w, (Instr.makeSlice m.t (.int .i64 (n : Int)) (.int .i64 (n : Int))).run P w = .ok (.slice (some ⟨w.1.size, 0, none⟩) n n) (w.alloc m.ob)
theorem eval_put_ne {a : Act} {d s : Nat} {v : Value} (h : d ≠ s) : (a.put (some d) v).eval (.tmp s) = a.eval (.tmp s) := by
 simp only [Act.put, Act.eval, Array.getD_eq_getD_getElem?, Array.getElem?_setIfInBounds_ne h]
theorem wpOp_make {n : Nat} {a : Act} {m : Mk} {w : World} {K : Act → World → Prop} (h : MkOk P ops n a m) (hK : K (a.put (some m.d) (m.val n w.1.size)) (w.alloc m.ob)) : wpOp P ops Q m.i K a w := by
 obtain ⟨⟨ty, pos, after, ho⟩, h1, h2, h3⟩ := h
 refine wpOp_step ho (fun K' hk => ?_)
 have hw : Region.wanted ⟨some m.d, .makeSlice m.t (.tmp m.l) (.tmp m.c), ty, pos, after, none⟩ (yielded ops a.tmps) = true := by simp [Region.wanted]
 rw [if_pos hw]
 unfold Oper.wp execOp
 simp only [Sem.run_bind, h1, h2, h3, Result.andThen_ok]
 exact hk _ _ hK
def markL (l : List Nat) (listed : Array Bool) : Array Bool := l.foldl (fun x i => x.setIfInBounds i true) listed
theorem markL_at {l : List Nat} {listed : Array Bool} {j : Nat} (d : Bool) (hj : j < listed.size) : (markL l listed).getD j d = if j ∈ l then true else listed.getD j d := by
 induction l generalizing listed with
 | nil => simp [markL]
 | cons i l ih =>
  show (markL l (listed.setIfInBounds i true)).getD j d = _
  rw [ih (by simpa using hj)]
  by_cases h : j ∈ l
  ·rw [if_pos h, if_pos (List.mem_cons_of_mem _ h)]
  ·rw [if_neg h]
   by_cases e : i = j
   ·subst e
    rw [if_pos (List.mem_cons_self ..)]
    simp [hj]
   ·rw [getD_set_ne d e, if_neg (fun h' => (List.mem_cons.1 h').elim (fun h' => e h'.symm) h)]
def OnlyL (md : Region.Mode) (ops : Array Oper) (I : List Nat) (listed : Array Bool) : Prop :=
 ∀ T : List Nat, (∀ t ∈ T, t ∈ I) → (∃ i ∈ I, i ∉ T) → ∀ j, j ∈ Region.ready md ops (markL T listed) ↔ (j ∈ I ∧ j ∉ T)
def chkL (md : Region.Mode) (ops : Array Oper) (listed : Array Bool) (I : List Nat) : Bool :=
 decide (listed.size = ops.size) && I.all (fun i => !(listed.getD i true) && decide (i < ops.size)) &&
 (List.range ops.size).all fun j => listed.getD j true || (match ops[j]? with
  | none => true
  | some o => o.after.all (fun e => decide (e.on < ops.size)) && (if I.contains j then o.after.all (fun e => !Region.binds md e || listed.getD e.on false) else
   (o.after.any (fun e => Region.binds md e && !(listed.getD e.on false) && !I.contains e.on)) || I.all (fun i => o.after.any (fun e => Region.binds md e && e.on == i))))
theorem onlyL_of {I : List Nat} {listed : Array Bool} (h : chkL md ops listed I = true) : OnlyL md ops I listed := by
 unfold chkL at h
 rw [Bool.and_eq_true, Bool.and_eq_true, decide_eq_true_eq, List.all_eq_true, List.all_eq_true] at h
 obtain ⟨⟨hs, hI⟩, hj⟩ := h
 have hI' : ∀ i ∈ I, listed.getD i true = false ∧ i < ops.size := fun i hi => by
  have := hI i hi
  rw [Bool.and_eq_true, decide_eq_true_eq] at this
  exact ⟨by simpa using this.1, this.2⟩
 intro T hT hex j
 rw [mem_ready]
 by_cases hjs : j < ops.size
 ·have hat : ∀ k, k < ops.size → ∀ d, (markL T listed).getD k d = if k ∈ T then true else listed.getD k d := fun k hk d => markL_at d (by omega)
  rw [hat j hjs]
  obtain ⟨o, ho⟩ : ∃ o, ops[j]? = some o := ⟨_, Array.getElem?_eq_getElem hjs⟩
  have h1 := hj j (List.mem_range.2 hjs)
  rw [ho] at h1
  constructor
  ·rintro ⟨h2, o', ho', hall⟩
   rw [ho] at ho'
   cases ho'
   have hjT : j ∉ T := fun h => by rw [if_pos h] at h2; cases h2
   rw [if_neg hjT] at h2
   rw [h2, Bool.false_or] at h1
   dsimp only at h1
   rw [Bool.and_eq_true] at h1
   refine ⟨?_, hjT⟩
   apply Classical.byContradiction
   intro hjI
   have hc : I.contains j = false := by simpa using hjI
   have hon : ∀ e ∈ o.after, e.on < ops.size := fun e he => by
    have := Array.all_eq_true_iff_forall_mem.1 h1.1 e he
    simpa using this
   have h3 := h1.2
   rw [hc, if_neg (by simp), Bool.or_eq_true] at h3
   rcases h3 with h3 | h3
   ·obtain ⟨e, he, h4⟩ := Array.any_eq_true'.1 h3
    rw [Bool.and_eq_true, Bool.and_eq_true] at h4
    have h5 := hall e he h4.1.1
    have heT : e.on ∉ T := fun h => by
     have := hT _ h
     simp [this] at h4
    rw [hat _ (hon e he), if_neg heT] at h5
    simp [h5] at h4
   ·obtain ⟨i, hi, hiT⟩ := hex
    have h4 := List.all_eq_true.1 h3 i hi
    obtain ⟨e, he, h5⟩ := Array.any_eq_true'.1 h4
    rw [Bool.and_eq_true, beq_iff_eq] at h5
    have h6 := hall e he h5.1
    rw [h5.2, hat _ (hI' i hi).2, if_neg hiT] at h6
    have h7 := (hI' i hi).1
    have hlt : i < listed.size := by rw [hs]; exact (hI' i hi).2
    simp [hlt] at h6 h7
    rw [h6] at h7; cases h7
  ·rintro ⟨hjI, hjT⟩
   rw [if_neg hjT]
   refine ⟨(hI' j hjI).1, o, ho, fun e he hb => ?_⟩
   rw [(hI' j hjI).1, Bool.false_or] at h1
   dsimp only at h1
   have hc : I.contains j = true := by simpa using hjI
   rw [Bool.and_eq_true, hc, if_pos rfl] at h1
   have hon : e.on < ops.size := by
    have := Array.all_eq_true_iff_forall_mem.1 h1.1 e he
    simpa using this
   have h4 := Array.all_eq_true_iff_forall_mem.1 h1.2 e he
   rw [hb, Bool.not_true, Bool.false_or] at h4
   rw [hat _ hon, h4]
   split <;> rfl
 ·constructor
  ·rintro ⟨_, o, ho, _⟩
   exact absurd (aI.1 ho).1 hjs
  ·rintro ⟨hjI, _⟩
   exact absurd (hI' j hjI).2 hjs
def putM (n : Nat) (q : Nat → Nat) (l : List Mk) (a : Act) : Act := l.foldl (fun a m => a.put (some m.d) (m.val n (q m.i))) a
theorem putM_comm {n : Nat} {q : Nat → Nat} {m : Mk} {v : Value} : ∀ {l : List Mk} {a : Act}, (∀ x ∈ l, x.d ≠ m.d) → putM n q l (a.put (some m.d) v) = (putM n q l a).put (some m.d) v
 | [], _, _ => rfl
 | x :: l, a, h => by
  show putM n q l ((a.put (some m.d) v).put (some x.d) (x.val n (q x.i))) = (putM n q l (a.put (some x.d) (x.val n (q x.i)))).put (some m.d) v
  have hx := h x (List.mem_cons_self ..)
  have e : (a.put (some m.d) v).put (some x.d) (x.val n (q x.i)) = (a.put (some x.d) (x.val n (q x.i))).put (some m.d) v := by
   simp only [Act.put]
   rw [Array.setIfInBounds_comm _ _ (Ne.symm hx)]
  rw [e, putM_comm (fun y hy => h y (List.mem_cons_of_mem _ hy))]
theorem markL_comm {i : Nat} : ∀ {l : List Nat} {x : Array Bool}, i ∉ l → markL l (x.setIfInBounds i true) = (markL l x).setIfInBounds i true
 | [], _, _ => rfl
 | j :: l, x, h => by
  show markL l ((x.setIfInBounds i true).setIfInBounds j true) = (markL l (x.setIfInBounds j true)).setIfInBounds i true
  have hij : i ≠ j := fun e => h (by rw [e]; exact List.mem_cons_self ..)
  rw [Array.setIfInBounds_comm _ _ hij, markL_comm (fun h' => h (List.mem_cons_of_mem _ h'))]
theorem wpAnyH_makes (n : Nat) : ∀ (k : Nat) (Ms : List Mk) (_ : Ms.length = k) (fuel : Nat) (listed : Array Bool) (a : Act) (w : World)
  (_ : (Ms.map (·.d)).Nodup) (_ : (Ms.map (·.i)).Nodup) (_ : ∀ m ∈ Ms, ∀ m' ∈ Ms, m.d ≠ m'.l ∧ m.d ≠ m'.c) (_ : ∀ m ∈ Ms, MkOk P ops n a m) (_ : OnlyL md ops (Ms.map (·.i)) listed)
  (_ : ∀ w', Below w.1.size w w' → S w')
  (_ : ∀ (q : Nat → Nat) (w' : World), Below w.1.size w w' → (∀ m ∈ Ms, w.1.size ≤ q m.i ∧ w'.1[q m.i]? = some m.ob) → (∀ m ∈ Ms, ∀ m' ∈ Ms, m.i ≠ m'.i → q m.i ≠ q m'.i) →
   wpAnyH P md ops Q S fuel (markL (Ms.map (·.i)) listed) (putM n q Ms a) w'),
  wpAnyH P md ops Q S (fuel + k) listed a w
 | 0, Ms, hk, fuel, listed, a, w, _, _, _, _, _, _, h => by
  have : Ms = [] := List.eq_nil_of_length_eq_zero hk
  subst this
  exact h (fun _ => 0) w bR (fun m hm => by cases hm) (fun m hm => by cases hm)
 | k + 1, Ms, hk, fuel, listed, a, w, hd, hi, hl, ho, hO, hS, h => by
  have hr := hO [] (fun t ht => by cases ht) (by
   cases Ms with
   | nil => simp at hk
   | cons m l => exact ⟨m.i, by simp, by simp⟩)
  have hr' : ∀ j, j ∈ Region.ready md ops listed ↔ j ∈ Ms.map (·.i) := fun j => by
   have := hr j
   simpa [markL] using this
  refine ⟨fun h0 => ?_, fun j hj => ?_⟩
  ·exfalso
   cases Ms with
   | nil => simp at hk
   | cons m l =>
    have := (hr' m.i).2 (by simp)
    rw [h0] at this; cases this
  ·obtain ⟨m, hm, rfl⟩ := List.mem_map.1 ((hr' j).1 hj)
   obtain ⟨M1, M2, rfl⟩ := List.append_of_mem hm
   have hd' := hd
   have hi' := hi
   simp only [List.map_append, List.map_cons] at hd' hi'
   rw [List.nodup_append, List.nodup_cons] at hd' hi'
   have hne1 : ∀ x ∈ M1 ++ M2, x.d ≠ m.d := fun x hx e => by
    rcases List.mem_append.1 hx with hx | hx
    ·exact hd'.2.2 x.d (List.mem_map.2 ⟨x, hx, rfl⟩) m.d (List.mem_cons_self ..) e
    ·exact hd'.2.1.1 (List.mem_map.2 ⟨x, hx, e⟩)
   have hne2 : ∀ x ∈ M1 ++ M2, x.i ≠ m.i := fun x hx e => by
    rcases List.mem_append.1 hx with hx | hx
    ·exact hi'.2.2 x.i (List.mem_map.2 ⟨x, hx, rfl⟩) m.i (List.mem_cons_self ..) e
    ·exact hi'.2.1.1 (List.mem_map.2 ⟨x, hx, e⟩)
   have hsub : ∀ x ∈ M1 ++ M2, x ∈ M1 ++ m :: M2 := fun x hx => by
    rcases List.mem_append.1 hx with hx | hx
    ·exact List.mem_append_left _ hx
    ·exact List.mem_append_right _ (List.mem_cons_of_mem _ hx)
   refine wpOp_make (ho m hm) ⟨hS _ (bR.alloc lR _), ?_⟩
   have hbA : Below w.1.size w (w.alloc m.ob) := bR.alloc lR _
   have hA := heap_alloc_new w m.ob
   refine wpAnyH_makes n k (M1 ++ M2) (by simp at hk ⊢; omega) fuel _ _ _ ?_ ?_ ?_ ?_ ?_ ?_ ?_
   ·simp only [List.map_append]
    rw [List.nodup_append]
    exact ⟨hd'.1, hd'.2.1.2, fun x hx y hy => hd'.2.2 x hx y (List.mem_cons_of_mem _ hy)⟩
   ·simp only [List.map_append]
    rw [List.nodup_append]
    exact ⟨hi'.1, hi'.2.1.2, fun x hx y hy => hi'.2.2 x hx y (List.mem_cons_of_mem _ hy)⟩
   ·exact fun x hx y hy => hl x (hsub x hx) y (hsub y hy)
   ·intro x hx
    obtain ⟨o1, o2, o3, o4⟩ := ho x (hsub x hx)
    have hlx := hl m hm x (hsub x hx)
    exact ⟨o1, by rw [eval_put_ne hlx.1]; exact o2, by rw [eval_put_ne hlx.2]; exact o3, o4⟩
   ·intro T hT hex j
    have hmem : ∀ {j}, j ∈ (M1 ++ M2).map (·.i) ↔ (j ∈ (M1 ++ m :: M2).map (·.i) ∧ j ≠ m.i) := by
     intro j
     constructor
     ·intro h'
      obtain ⟨x, hx, rfl⟩ := List.mem_map.1 h'
      exact ⟨List.mem_map.2 ⟨x, hsub x hx, rfl⟩, hne2 x hx⟩
     ·rintro ⟨h', hne⟩
      obtain ⟨x, hx, rfl⟩ := List.mem_map.1 h'
      rcases List.mem_append.1 hx with hx | hx
      ·exact List.mem_map.2 ⟨x, List.mem_append_left _ hx, rfl⟩
      ·rcases List.mem_cons.1 hx with rfl | hx
       ·exact absurd rfl hne
       ·exact List.mem_map.2 ⟨x, List.mem_append_right _ hx, rfl⟩
    have := hO (m.i :: T) (fun t ht => by
      rcases List.mem_cons.1 ht with rfl | ht
      ·exact List.mem_map.2 ⟨m, hm, rfl⟩
      ·exact (hmem.1 (hT t ht)).1) (by
      obtain ⟨i, h1, h2⟩ := hex
      obtain ⟨h3, h4⟩ := hmem.1 h1
      exact ⟨i, h3, fun h' => (List.mem_cons.1 h').elim h4 h2⟩) j
    rw [show markL (m.i :: T) listed = markL T (listed.setIfInBounds m.i true) from rfl] at this
    rw [this, hmem]
    constructor
    ·rintro ⟨h1, h2⟩
     exact ⟨⟨h1, fun e => h2 (by rw [e]; exact List.mem_cons_self ..)⟩, fun h' => h2 (List.mem_cons_of_mem _ h')⟩
    ·rintro ⟨⟨h1, h2⟩, h3⟩
     exact ⟨h1, fun h' => (List.mem_cons.1 h').elim h2 h3⟩
   ·intro w' hb
    exact hS w' (hbA.trans (hb.mono (by simp)))
   ·intro q w' hb hq hqd
    have hb' : Below w.1.size w w' := hbA.trans (hb.mono (by simp))
    have h1 := h (fun i => if i = m.i then w.1.size else q i) w' hb' (fun x hx => by
      by_cases e : x.i = m.i
      ·have hxm : x = m := by
        rcases List.mem_append.1 hx with hx | hx
        ·exact absurd e (hne2 x (List.mem_append_left _ hx))
        ·rcases List.mem_cons.1 hx with rfl | hx
         ·rfl
         ·exact absurd e (hne2 x (List.mem_append_right _ hx))
       subst hxm
       rw [if_pos rfl]
       exact ⟨lR, (hb.block _ (by simp)).trans hA⟩
      ·have hx' : x ∈ M1 ++ M2 := by
        rcases List.mem_append.1 hx with hx | hx
        ·exact List.mem_append_left _ hx
        ·rcases List.mem_cons.1 hx with rfl | hx
         ·exact absurd rfl e
         ·exact List.mem_append_right _ hx
       have := hq x hx'
       simp only [World.size_alloc] at this
       rw [if_neg e]
       exact ⟨by omega, this.2⟩) (fun x hx y hy hxy => by
      have hin : ∀ z ∈ M1 ++ m :: M2, z.i ≠ m.i → z ∈ M1 ++ M2 := fun z hz hne => by
       rcases List.mem_append.1 hz with hz | hz
       ·exact List.mem_append_left _ hz
       ·rcases List.mem_cons.1 hz with rfl | hz
        ·exact absurd rfl hne
        ·exact List.mem_append_right _ hz
      by_cases e1 : x.i = m.i
      ·rw [if_pos e1]
       have e2 : y.i ≠ m.i := fun e2 => hxy (e1.trans e2.symm)
       rw [if_neg e2]
       have := (hq y (hin y hy e2)).1
       simp only [World.size_alloc] at this
       omega
      ·rw [if_neg e1]
       by_cases e2 : y.i = m.i
       ·rw [if_pos e2]
        have := (hq x (hin x hx e1)).1
        simp only [World.size_alloc] at this
        omega
       ·rw [if_neg e2]
        exact hqd x (hin x hx e1) y (hin y hy e2) hxy)
    have hp : ∀ (l : List Mk) (a' : Act), (∀ x ∈ l, x.i ≠ m.i) → putM n (fun i => if i = m.i then w.1.size else q i) l a' = putM n q l a' := by
     intro l
     induction l with
     | nil => intro a' _; rfl
     | cons x l ih =>
      intro a' hx
      have e0 : putM n (fun i => if i = m.i then w.1.size else q i) (x :: l) a' = putM n (fun i => if i = m.i then w.1.size else q i) l (a'.put (some x.d) (x.val n (if x.i = m.i then w.1.size else q x.i))) := rfl
      rw [e0, if_neg (hx x (List.mem_cons_self ..)), ih _ (fun y hy => hx y (List.mem_cons_of_mem _ hy))]
      rfl
    have e1 : putM n (fun i => if i = m.i then w.1.size else q i) (M1 ++ m :: M2) a = putM n q (M1 ++ M2) (a.put (some m.d) (m.val n w.1.size)) := by
     have h2 : putM n (fun i => if i = m.i then w.1.size else q i) (M1 ++ m :: M2) a = putM n (fun i => if i = m.i then w.1.size else q i) M2 ((putM n (fun i => if i = m.i then w.1.size else q i) M1 a).put (some m.d) (m.val n w.1.size)) := by
      unfold putM
      rw [List.foldl_append, List.foldl_cons]
      simp
     rw [h2, hp M1 a (fun x hx => hne2 x (List.mem_append_left _ hx)), hp M2 _ (fun x hx => hne2 x (List.mem_append_right _ hx)), ← putM_comm (fun x hx => hne1 x (List.mem_append_left _ hx))]
     unfold putM
     rw [List.foldl_append]
    have e2 : markL ((M1 ++ m :: M2).map (·.i)) listed = markL ((M1 ++ M2).map (·.i)) (listed.setIfInBounds m.i true) := by
     have hn : m.i ∉ M1.map (·.i) := fun h' => by
      obtain ⟨x, hx, e⟩ := List.mem_map.1 h'
      exact hne2 x (List.mem_append_left _ hx) e
     rw [List.map_append, List.map_append, List.map_cons]
     have h2 : ∀ (l r : List Nat) (x : Array Bool), markL (l ++ r) x = markL r (markL l x) := fun l r x => by simp [markL, List.foldl_append]
     rw [h2, h2, markL_comm hn]
     rfl
    rw [e1, e2] at h1
    exact h1
end
end Go.Proofs.YtiebpncpdbnelaaGreatDoor
namespace Go.Proofs.YtiebpncpdbnelaaGreatDoor
open Go.RowKit
theorem own_of_block {w : World} {base q n : Nat} {e : TypeId} {z : Value} (hh : w.1[q]? = some (.cells (madeCells #[z] n) e)) (hb : base ≤ q) (hn : n ≤ maxLen) : w.ownsRow base e 1 (.slice (some ⟨q, 0, none⟩) n n) n (List.replicate n z) := by
 have hm : (madeCells #[z] n).toList = List.replicate n z := toList_madeCells_one _ _
 have hs : (madeCells #[z] n).size = n := by have := congrArg List.length hm; simpa using this
 refine ⟨by simp, .inr ⟨q, n, _, rfl, hb, hh, lR, hn, by rw [hs, Nat.mul_one], ?_⟩⟩
 rw [tL (by rw [Array.length_toList, hs]; omega)]
 exact hm
def OfPost (E : List (List Nd)) (N : Nat) (w : World) (e : Ending) (w' : World) : Prop :=
 ∃ of v, OfOk E of ∧ e = .returned v ∧ w'.ownsRow w.1.size 3 1 v N (icells (natI of)) ∧ Below w.1.size w w'
theorem of_any7 (E : List (List Nd)) (vi vl : Value) (ae : Option Addr) (N ce B : Nat) (w : World) (hEd : Sl2 w B 2 ae N ce (E.map ncells)) (hB : B ≤ w.1.size)
  (hE : ∀ r ∈ E, ∀ e ∈ r, isNd E.length e.op = true) (hN : N ≤ 1000000) (hr : ∀ r ∈ E, r.length ≤ 1000000) :
  Calls Tryz.prog 84 #[.agg #[vi, .slice ae N ce, vl]] w (OfPost E N w) := by
 have hNE : N = E.length := by have := hEd.len; simpa using this
 have hmk := run_make_row' (P := Tryz.prog) 22 3 (.int .i64 0) 8 Tryz.underlying22 infoInt rfl .i64 .i64 N (by omega) (by omega)
 have hmb := run_make_row' (P := Tryz.prog) 48 4 (.bool false) 1 Tryz.underlying48 infoBool rfl .i64 .i64 N (by omega) (by omega)
 obtain ⟨w0, hw0⟩ := xQ (w.alloc (.cells #[vi, .slice ae N ce, vl] 55))
 have hb0 : Below w.1.size w w0 := by rw [← hw0]; exact bR.alloc lR _
 have hx0 : w0.1[w.1.size]? = some (.cells #[vi, .slice ae N ce, vl] 55) := by rw [← hw0]; exact heap_alloc_new w _
 have hz0 : w0.1.size = w.1.size + 1 := by rw [← hw0]; simp
 have hc1 : w0.cell? ⟨w.1.size, 1, none⟩ = some (.slice ae N ce) := cR hx0
 have HW0 := dh hw0
 have HEd := dh (hEd.below hb0 hB)
 have HE := dh hE
 have HR := dh hr
 have HNE := dh hNE
 have HB0 := dh hb0
 have HX0 := dh hx0
 have hgl : w.1.size < w0.1.size := by omega
 have hcap := hEd.cap
 have hmax := hEd.max
 unfold maxLen at hmax
 obtain ⟨gb, hgb⟩ := xQ w.1.size
 have HGB := dh hgb
 rw [hgb] at hc1 hgl HX0 hB
 have HZ0 := dh hz0
 clear hw0 hEd hE hr hNE hb0 hx0 hz0
 go_enter Tryz.func84, Tryz.ntmps84
 go_wp2_with fail
 rw [HW0.out]
 clear hgb
 refine wp_region_held_drew (S := fun w' => w'.cell? ⟨gb, 1, none⟩ = some (.slice ae N ce)) (by kernel_rfl) hc1 (fun hS => ?_)
 refine tkH 0 ?_
 refine tkH 1 ?_
 refine tkH 2 ?_
 refine tkH 4 ?_
 refine tkH 6 ?_
 refine tkH 8 ?_
 refine tkH 10 ?_
 refine wpAnyH_makes N 5 [⟨3, 12, 22, 11, 11, (.cells (madeCells #[.int .i64 0] N) 3)⟩, ⟨5, 14, 22, 13, 13, (.cells (madeCells #[.int .i64 0] N) 3)⟩, ⟨7, 16, 22, 15, 15, (.cells (madeCells #[.int .i64 0] N) 3)⟩, ⟨9, 18, 48, 17, 17, (.cells (madeCells #[.bool false] N) 4)⟩, ⟨11, 20, 22, 19, 19, (.cells (madeCells #[.int .i64 0] N) 3)⟩] rfl 3 _ _ _ (by simp) (by simp) ?_ ?_ (onlyL_of (by kernel_rfl)) (fun w' hb => bC hb hgl hc1) ?_
 ·simp
 ·intro m hm
  simp only [List.mem_cons, List.not_mem_nil, or_false] at hm
  rcases hm with rfl | rfl | rfl | rfl | rfl
  ·exact ⟨⟨_, _, _, rfl⟩, rfl, rfl, hmk⟩
  ·exact ⟨⟨_, _, _, rfl⟩, rfl, rfl, hmk⟩
  ·exact ⟨⟨_, _, _, rfl⟩, rfl, rfl, hmk⟩
  ·exact ⟨⟨_, _, _, rfl⟩, rfl, rfl, hmb⟩
  ·exact ⟨⟨_, _, _, rfl⟩, rfl, rfl, hmk⟩
 intro q w1 hb1 hq hqd
 simp only [putM, markL, List.map_cons, List.map_nil, List.foldl_cons, List.foldl_nil, Mk.val]
 obtain ⟨q3, h3⟩ := xQ (q 3)
 obtain ⟨q5, h5⟩ := xQ (q 5)
 obtain ⟨q7, h7⟩ := xQ (q 7)
 obtain ⟨q9, h9⟩ := xQ (q 9)
 obtain ⟨q11, h11⟩ := xQ (q 11)
 have a3 := hq ⟨3, 12, 22, 11, 11, (.cells (madeCells #[.int .i64 0] N) 3)⟩ (by simp)
 have a5 := hq ⟨5, 14, 22, 13, 13, (.cells (madeCells #[.int .i64 0] N) 3)⟩ (by simp)
 have a7 := hq ⟨7, 16, 22, 15, 15, (.cells (madeCells #[.int .i64 0] N) 3)⟩ (by simp)
 have a9 := hq ⟨9, 18, 48, 17, 17, (.cells (madeCells #[.bool false] N) 4)⟩ (by simp)
 have a11 := hq ⟨11, 20, 22, 19, 19, (.cells (madeCells #[.int .i64 0] N) 3)⟩ (by simp)
 have hd' : q3 ≠ q5 ∧ q3 ≠ q7 ∧ q3 ≠ q11 ∧ q5 ≠ q7 ∧ q5 ≠ q11 ∧ q7 ≠ q11 := by
  have h := fun (i j : Nat) (m m' : Mk) hm hm' (e1 : m.i = i) (e2 : m'.i = j) (hne : i ≠ j) => e1 ▸ e2 ▸ hqd m hm m' hm' (by rw [e1, e2]; exact hne)
  rw [← h3, ← h5, ← h7, ← h11]
  refine ⟨?_, ?_, ?_, ?_, ?_, ?_⟩
  ·exact h 3 5 _ _ (List.mem_cons_self ..) (List.mem_cons_of_mem _ (List.mem_cons_self ..)) rfl rfl (by decide)
  ·exact h 3 7 _ _ (List.mem_cons_self ..) (List.mem_cons_of_mem _ (List.mem_cons_of_mem _ (List.mem_cons_self ..))) rfl rfl (by decide)
  ·exact h 3 11 _ _ (List.mem_cons_self ..) (List.mem_cons_of_mem _ (List.mem_cons_of_mem _ (List.mem_cons_of_mem _ (List.mem_cons_of_mem _ (List.mem_cons_self ..))))) rfl rfl (by decide)
  ·exact h 5 7 _ _ (List.mem_cons_of_mem _ (List.mem_cons_self ..)) (List.mem_cons_of_mem _ (List.mem_cons_of_mem _ (List.mem_cons_self ..))) rfl rfl (by decide)
  ·exact h 5 11 _ _ (List.mem_cons_of_mem _ (List.mem_cons_self ..)) (List.mem_cons_of_mem _ (List.mem_cons_of_mem _ (List.mem_cons_of_mem _ (List.mem_cons_of_mem _ (List.mem_cons_self ..))))) rfl rfl (by decide)
  ·exact h 7 11 _ _ (List.mem_cons_of_mem _ (List.mem_cons_of_mem _ (List.mem_cons_self ..))) (List.mem_cons_of_mem _ (List.mem_cons_of_mem _ (List.mem_cons_of_mem _ (List.mem_cons_of_mem _ (List.mem_cons_self ..))))) rfl rfl (by decide)
 dsimp only at a3 a5 a7 a9 a11
 rw [h3] at a3
 rw [h5] at a5
 rw [h7] at a7
 rw [h9] at a9
 rw [h11] at a11
 rw [h3, h5, h7, h9, h11]
 change w0.1.size ≤ q3 ∧ w1.1[q3]? = _ at a3
 change w0.1.size ≤ q5 ∧ w1.1[q5]? = _ at a5
 change w0.1.size ≤ q7 ∧ w1.1[q7]? = _ at a7
 change w0.1.size ≤ q9 ∧ w1.1[q9]? = _ at a9
 change w0.1.size ≤ q11 ∧ w1.1[q11]? = _ at a11
 clear hq hqd h3 h5 h7 h9 h11
 have hb1' : Below w0.1.size w0 w1 := ⟨hb1.os, hb1.tape, hb1.output, hb1.size, hb1.block⟩
 have hz1 := hb1'.size
 have k1 : w1.cell? ⟨gb, 1, none⟩ = some (.slice ae N ce) := bC hb1' hgl hc1
 have HA := dh (And.intro a3 (And.intro a5 (And.intro a7 (And.intro a9 a11))))
 have HD := dh hd'
 have HB1 := dh hb1'
 clear a3 a5 a7 a9 a11 hd' hb1 hb1' hc1 hmk hmb
 refine wpAnyH_takeD (i := 12) (v := ?_) rfl (by kernel_rfl) (by kernel_rfl) (by kernel_rfl) (fun _ _ _ h => h) (Or.inl ⟨by kernel_rfl, ?_⟩) k1 ?_
 rotate_left 1
 ·(intro w' hSw; (try dsimp only at hSw); go_simp; try (with_reducible rfl))
 refine oneH 13 (fun K hK => ?_)
 go_simp
 have hbB : Below w0.1.size w0 (w1.alloc (.cells #[.slice ae N ce, .slice (some ⟨q3, 0, none⟩) N N, .slice (some ⟨q5, 0, none⟩) N N, .slice (some ⟨q7, 0, none⟩) N N, .slice none 0 0, .slice none 0 0, .slice (some ⟨q9, 0, none⟩) N N, .slice (some ⟨q11, 0, none⟩) N N, .int .i64 0] 126)) := HB1.out.alloc hz1 _
 have hA2 := heap_alloc_new w1 (.cells #[.slice ae N ce, .slice (some ⟨q3, 0, none⟩) N N, .slice (some ⟨q5, 0, none⟩) N N, .slice (some ⟨q7, 0, none⟩) N N, .slice none 0 0, .slice none 0 0, .slice (some ⟨q9, 0, none⟩) N N, .slice (some ⟨q11, 0, none⟩) N N, .int .i64 0] 126)
 have hO : ∀ {b : Nat} {o : Obj}, w1.1[b]? = some o → (w1.alloc (.cells #[.slice ae N ce, .slice (some ⟨q3, 0, none⟩) N N, .slice (some ⟨q5, 0, none⟩) N N, .slice (some ⟨q7, 0, none⟩) N N, .slice none 0 0, .slice none 0 0, .slice (some ⟨q9, 0, none⟩) N N, .slice (some ⟨q11, 0, none⟩) N N, .int .i64 0] 126)).1[b]? = some o := fun h => heap_old (aI.1 h).1 h
 have b3 := hO HA.out.1.2
 have b5 := hO HA.out.2.1.2
 have b7 := hO HA.out.2.2.1.2
 have b9 := hO HA.out.2.2.2.1.2
 have b11 := hO HA.out.2.2.2.2.2
 obtain ⟨w2, hw2⟩ := xQ (w1.alloc (.cells #[.slice ae N ce, .slice (some ⟨q3, 0, none⟩) N N, .slice (some ⟨q5, 0, none⟩) N N, .slice (some ⟨q7, 0, none⟩) N N, .slice none 0 0, .slice none 0 0, .slice (some ⟨q9, 0, none⟩) N N, .slice (some ⟨q11, 0, none⟩) N N, .int .i64 0] 126))
 rw [hw2] at hbB hA2 b3 b5 b7 b9 b11 ⊢
 clear hO hw2
 have hzb : w0.1.size ≤ w1.1.size := hz1
 obtain ⟨bs, hbs⟩ := xQ w1.1.size
 rw [hbs] at hA2 hzb ⊢
 have k2 : w2.cell? ⟨gb, 1, none⟩ = some (.slice ae N ce) := (hbB.cell (p := ⟨gb, 1, none⟩) hgl).trans (cR HX0.out)
 have hmL : N ≤ maxLen := by unfold maxLen; omega
 have hlt : ∀ {b : Nat} {o : Obj}, w2.1[b]? = some o → b < w2.1.size := fun h => (aI.1 h).1
 have hrep : icells (natI (List.replicate N 0)) = List.replicate N (.int .i64 0) := by simp [icells, natI]
 have hM0 : ScM gb (.cells #[vi, .slice ae N ce, vl] 55) w0.1.size bs (.slice ae N ce) N q3 q5 q7 q9 q11 (.slice none 0 0) (.slice none 0 0) (Sc.start N) w2 := by
  have d := HD.out
  refine ⟨hA2, by rw [show (Sc.start N).num = List.replicate N 0 from rfl, hrep]; exact own_of_block b3 HA.out.1.1 hmL, by rw [show (Sc.start N).low = List.replicate N 0 from rfl, hrep]; exact own_of_block b5 HA.out.2.1.1 hmL, by rw [show (Sc.start N).nxt = List.replicate N 0 from rfl, hrep]; exact own_of_block b7 HA.out.2.2.1.1 hmL, by rw [show (Sc.start N).prt = List.replicate N 0 from rfl, hrep]; exact own_of_block b11 HA.out.2.2.2.2.1 hmL, ?_, ?_, ?_, hzb, d, fun g e => by simp [Value.ownBlock] at e, fun g e => by simp [Value.ownBlock] at e, (hbB.block gb hgl).trans HX0.out, ?_⟩
  ·have := own_of_block b9 HA.out.2.2.2.1.1 hmL
   rw [show bcells (Sc.start N).inn = List.replicate N (.bool false) from by simp [bcells, Sc.start]]; exact this
  ·simpa [icells, natI, Sc.start] using World.ownsRow_nil w2 w0.1.size 3 1
  ·simpa [icells, natI, Sc.start] using World.ownsRow_nil w2 w0.1.size 3 1
  ·have := HA.out
   refine ⟨by omega, by omega, by omega, by omega, by omega, by omega, by simp [Value.ownBlock], by simp [Value.ownBlock]⟩
 have HM0 := dh hM0
 have HB2 := dh hbB
 clear hM0 hbB hA2 b3 b5 b7 b9 b11 HA HD HB1 hrep hmL hlt k1
 refine hK.out _ _ k2 (fun hS => ?_)
 clear hK
 refine wpAnyH_takeD (i := 14) (v := ?_) rfl (by kernel_rfl) (by kernel_rfl) (by kernel_rfl) (fun _ _ _ h => h) (Or.inl ⟨by kernel_rfl, ?_⟩) k2 ?_
 rotate_left 1
 ·(intro w' hSw; (try dsimp only at hSw); go_simp; try (with_reducible rfl))
 refine wpAnyH_done (by kernel_rfl) ?_ _
 have HI0 : Hid (SI E (Sc.start N)) := dh (by rw [HNE.out]; exact SI.start E)
 have hEN : E.length = N := HNE.out.symm
 go_wp2_with fail
 clear k2 hS hbs hEN
 go_loopw [26] (fun v wr => ∃ (i : Nat) (s : Sc) (vs vw : Value), i ≤ N ∧ v = .int .i64 i ∧ Hid (SI E s) ∧ Hid (s.way = []) ∧ Hid (∀ y, y < i → 0 < s.num.getD y 0) ∧ ScM gb (.cells #[vi, .slice ae N ce, vl] 55) w0.1.size bs (.slice ae N ce) N q3 q5 q7 q9 q11 vs vw s wr ∧ Below w0.1.size w0 wr) (fun v _ => N - (intOf v).toNat)
 case atStart => exact ⟨0, _, _, _, by omega, rfl, HI0, dh rfl, dh (fun y hy => by omega), HM0.out, HB2.out⟩
 case round =>
  clear HM0 HI0 HB2
  obtain ⟨i, s, vs, vw, hi, rfl, HI, HW, HV, hM, hb⟩ := hrel
  have c1 := hM.cells.2.1
  have c7 := hM.cells.2.2.2.2.2.2.2.1
  by_cases hlt : i < N
  ·have hi0 : (0 : Int) ≤ (i : Int) := by omega
   have hi1 : (i : Int) < (N : Int) := by omega
   have wi : IntKind.i64.wrap ((i : Int) + 1) = (i : Int) + 1 := by rw [wI]; omega
   obtain ⟨n1, n2, n3⟩ := own_getn hM.num hlt
   obtain ⟨ny, hny⟩ := xQ (s.num.getD i 0)
   rw [hny] at n1
   have HM := dh hM
   have HB := dh hb
   have HNY := dh hny
   clear hM hb hny
   by_cases hz : ny = 0
   ·subst hz
    have HWK := dh (walk_any gb _ E ae ce B w0.1.size bs N q3 q5 q7 q9 q11 vs vw s wr i (HEd.out.below HB.out (by omega)) (by omega) HM.out hgl HI.out HW.out hlt HNY.out HE.out hN HR.out)
    go_wp2_with fail
    refine HWK.out.mono ?_
    rintro e w5 ⟨⟨v5, rfl⟩, ⟨s5, vs5, vw5, h1, h2, h3, h4, hM5⟩, hb5⟩
    have HM5 := dh hM5
    have HB5 := dh (HB.out.trans hb5)
    have HI5 := dh h1
    have HW5 := dh h2
    have HV5 : Hid (∀ y, y < i + 1 → 0 < s5.num.getD y 0) := dh (fun y hy => by
     by_cases e : y = i
     ·subst e; exact h4
     ·exact h3 y (HV.out y (by omega)))
    clear hM5 hb5 h1 h2 h3 h4 c1 c7 n1 n2 n3
    go_wp2_with fail
    exact ⟨⟨i + 1, s5, vs5, vw5, by omega, congrArg (Value.int .i64) (by omega), HI5, HW5, HV5, HM5.out, HB5.out⟩, by simp [intOf]; omega⟩
   ·have hz' : ((ny : Int) == 0) = false := by simp; omega
    have HV5 : Hid (∀ y, y < i + 1 → 0 < s.num.getD y 0) := dh (fun y hy => by
     by_cases e : y = i
     ·subst e; rw [HNY.out]; omega
     ·exact HV.out y (by omega))
    go_wp2_with fail
    exact ⟨⟨i + 1, s, vs, vw, by omega, congrArg (Value.int .i64) (by omega), HI, HW, HV5, HM.out, HB.out⟩, by simp [intOf]; omega⟩
  ·have hin : i = N := by omega
   subst hin
   have hall := HI.out.all HW.out (fun x hx => HV.out x (by rw [HNE.out]; exact hx))
   have HOF : Hid (OfOk E s.prt) := dh ⟨HI.out.lp, hall⟩
   have hpo := own_base hM.prt (show w.1.size ≤ w0.1.size by have := HZ0.out; omega)
   have HPO := dh hpo
   have HBF : Hid (Below w.1.size w wr) := dh (HB0.out.trans (hb.mono (by have := HZ0.out; omega)))
   clear hM hb hall hpo c1
   go_wp2_with fail
   go_ret
   exact ⟨s.prt, _, HOF.out, rfl, HPO.out, HBF.out⟩
end Go.Proofs.YtiebpncpdbnelaaGreatDoor
