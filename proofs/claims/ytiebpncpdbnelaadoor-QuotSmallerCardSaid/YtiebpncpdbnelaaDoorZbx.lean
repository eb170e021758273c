/- Texts that stand one behind the other, in one file. -/
import Derived.Test.YtiebpncpdbnelaaDoorZbw
import Derived.Lib.MinMax
set_option maxHeartbeats 4000000
set_option maxRecDepth 100000
namespace Go.Proofs.YtiebpncpdbnelaaDoor
open Go Go.RowKit
theorem LessA.zero (a : Aut) : LessA Aut.zero a := ⟨Nat.zero_le _, Nat.zero_le _, fun x hx => (by cases hx)⟩
theorem NDA.zero (KE : Nat) : NDA Aut.zero KE := ⟨fun x hx => (by cases hx), fun x hx => (by cases hx), fun x hx => (by cases hx), Nat.zero_le _⟩
structure SmallA (b a : Aut) (KE : Nat) : Prop where
 less : LessA b a
 nda : NDA b KE
theorem merge_small {a : Aut} {KE : Nat} (h : NDA a KE) : SmallA (mergeF a) a KE := by
 unfold mergeF
 split
 ·exact ⟨merge_lessA a, h.merge⟩
 ·exact ⟨LessA.zero a, NDA.zero KE⟩
theorem prune_small {a : Aut} {KE : Nat} (h : NDA a KE) : SmallA (pruneF a) a KE := by
 unfold pruneF
 split
 ·exact ⟨prune_lessA a, h.prune⟩
 ·exact ⟨LessA.zero a, NDA.zero KE⟩
theorem of_small {a : Aut} {KE : Nat} (h : NDA a KE) : SmallA (ofFA a) a KE := by
 unfold ofFA
 split
 ·rename_i hck
  refine ⟨ofQ_lessA (chk_iff.1 hck), ?_⟩
  exact (ofQ_rel (chk_iff.1 hck) (R := fun b a => NDA a KE → NDA b KE) (fun _ h => h) (fun _ _ _ ih h => ih h.trim.merge.prune.trim)) h
 ·exact ⟨LessA.zero a, NDA.zero KE⟩
end Go.Proofs.YtiebpncpdbnelaaDoor
namespace Go.Proofs.YtiebpncpdbnelaaDoor
open Go.RowKit
def mostA (a : Aut) : Nat → Nat
 | 0 => 0
 | k + 1 => max (mostA a k) (a.at k).to.length
theorem mostA_ge {a : Aut} : ∀ {k i : Nat}, i < k → (a.at i).to.length ≤ mostA a k
 | k + 1, i, h => by
  unfold mostA
  by_cases e : i = k
  ·subst e; exact Nat.le_max_right _ _
  ·exact Nat.le_trans (mostA_ge (k := k) (by omega)) (Nat.le_max_left _ _)
theorem less_most {a b : Aut} (h : LessA b a) {k : Nat} (hk : k < b.nodes.length) : (b.at k).to.length ≤ mostA a a.nodes.length := by
 obtain ⟨y, hy, hl⟩ := h.rows _ (at_mem hk)
 obtain ⟨i, hi, rfl⟩ := List.mem_iff_getElem.1 hy
 have e : a.at i = a.nodes[i] := by unfold Aut.at; rw [gD, gE hi]; rfl
 exact Nat.le_trans hl (by rw [← e]; exact mostA_ge hi)
theorem lessQ_any (a b : Aut) (Ai : Option Addr) (ni ci : Nat) (An : Option Addr) (nn cn : Nat) (Di : Option Addr) (mi di : Nat) (Dn : Option Addr) (mn dn : Nat) (w : World) (B : Nat) (h1 : AutRd w B a Ai ni ci An nn cn) (h2 : AutRd w B b Di mi di Dn mn dn) (hB : B ≤ w.1.size) (hab : LessA b a) (hn : a.nodes.length ≤ 1000) (hr : ∀ x ∈ a.nodes, x.to.length ≤ 1000000) :
  Calls Tryd.prog 23 #[.agg #[.int .i64 a.sets, .slice Ai ni ci, .slice An nn cn], .agg #[.int .i64 b.sets, .slice Di mi di, .slice Dn mn dn]] w (Tru w true) := by
 obtain ⟨hb0, x0, y0, z0⟩ := two_new w (.cells #[.int .i64 a.sets, .slice Ai ni ci, .slice An nn cn] 25) (.cells #[.int .i64 b.sets, .slice Di mi di, .slice Dn mn dn] 25)
 obtain ⟨W0, hW0⟩ := xQ ((w.alloc (.cells #[.int .i64 a.sets, .slice Ai ni ci, .slice An nn cn] 25)).alloc (.cells #[.int .i64 b.sets, .slice Di mi di, .slice Dn mn dn] 25))
 rw [hW0] at hb0 x0 y0 z0
 have HRA := dh (h1.below hb0 hB)
 have HRB := dh (h2.below hb0 hB)
 have HW0 := dh hW0
 have HB0 := dh hb0
 have HAB := dh hab
 have HNA := dh h1.enn
 have HNB := dh h2.enn
 have HHR := dh hr
 have hmn : mn ≤ nn := by rw [HNA.out, HNB.out]; exact hab.nodes
 have hmi : mi ≤ ni := by rw [h1.eni, h2.eni]; exact hab.init
 have hnn : nn ≤ 1000 := by rw [HNA.out]; exact hn
 obtain ⟨a0, a1, a2⟩ := box3A x0
 obtain ⟨b0, b1, b2⟩ := box3A y0
 clear a0 b0 hW0 hb0 x0 y0 z0 h1 h2 hB hab hr hn
 go_enter Tryd.func23, Tryd.ntmps23
 go_upto_region 1 with fail
 rw [HW0.out]
 go_wp2_with fail
 go_loopw [5, 6] (fun m i wr => ∃ k : Nat, wr = W0 ∧ k ≤ nn ∧ m = .int .i64 (mostA a k : Int) ∧ i = .int .i64 (k : Int)) (fun _ i _ => nn - (intOf i).toNat)
 case atStart => exact ⟨0, rfl, by omega, rfl, rfl⟩
 case round =>
  obtain ⟨k, rfl, hk, rfl, rfl⟩ := hrel
  by_cases hlt : k < nn
  ·obtain ⟨bx, ox, x, At, ct, rfl, hbx, hx, -, -, -, c3, hst⟩ := rd_aut HRA.out hlt
   have wk : IntKind.i64.wrap ((k : Int) + 1) = (k : Int) + 1 := by rw [wI]; omega
   have hk0 : (0 : Int) ≤ (k : Int) := by omega
   have hk1 : (k : Int) < (nn : Int) := by omega
   have hcn := (Exists.choose_spec HRA.out.nodes).1.cap
   have hcm := (Exists.choose_spec HRA.out.nodes).1.max
   unfold maxLen at hcm
   have hxk : a.at k = x := by unfold Aut.at; rw [gD, hx]; rfl
   have HM : Hid (mostA a (k + 1) = max (mostA a k) x.to.length) := dh (by rw [mostA, hxk])
   obtain ⟨m, hm⟩ := xQ (mostA a k)
   rw [hm] at HM ⊢
   have hmx : max (m : Int) (x.to.length : Int) = ((max m x.to.length : Nat) : Int) := by omega
   clear hst hx hxk hm
   go_wp2_with fail
   go_roundw
   case rel => exact ⟨k + 1, trivial, by omega, by rw [HM.out], congrArg (Value.int .i64) (by omega)⟩
   case measure => simp [intOf]; omega
  ·have hkn : k = a.nodes.length := by rw [← HNA.out]; omega
   have hle : ¬ (k : Int) < (nn : Int) := by omega
   obtain ⟨mx, hmx⟩ := xQ (mostA a a.nodes.length)
   have HMX := dh hmx
   have hke : mostA a k = mx := by rw [hkn, hmx]
   rw [hke]
   clear hkn hmx hke
   have hmn' : (mn : Int) ≤ (nn : Int) := by omega
   have hmi' : (mi : Int) ≤ (ni : Int) := by omega
   go_wp2_with fail
   clear hle
   go_loopw [7] (fun i w9 => ∃ q : Nat, w9 = wr ∧ q ≤ mn ∧ i = .int .i64 (q : Int)) (fun i _ => mn - (intOf i).toNat)
   case atStart => exact ⟨0, rfl, by omega, rfl⟩
   case round =>
    obtain ⟨q, rfl, hq, rfl⟩ := hrel
    by_cases hlq : q < mn
    ·obtain ⟨bx, ox, x, At, ct, rfl, hbx, hx, -, -, -, c3, hst⟩ := rd_aut HRB.out hlq
     have wk : IntKind.i64.wrap ((q : Int) + 1) = (q : Int) + 1 := by rw [wI]; omega
     have hk0 : (0 : Int) ≤ (q : Int) := by omega
     have hk1 : (q : Int) < (mn : Int) := by omega
     have hcn := (Exists.choose_spec HRB.out.nodes).1.cap
     have hcm := (Exists.choose_spec HRB.out.nodes).1.max
     unfold maxLen at hcm
     have hxk : b.at q = x := by unfold Aut.at; rw [gD, hx]; rfl
     have hlm : ¬ (mx : Int) < (x.to.length : Int) := by
      have := less_most HAB.out (k := q) (by rw [← HNB.out]; exact hlq)
      rw [HMX.out, hxk] at this
      omega
     clear hst hx hxk
     go_wp2_with fail
     go_roundw
     case rel => exact ⟨q + 1, trivial, by omega, congrArg (Value.int .i64) (by omega)⟩
     case measure => simp [intOf]; omega
    ·have hle : ¬ (q : Int) < (mn : Int) := by omega
     have hqn : q = mn := by omega
     go_wp2_with fail
     go_ret
     exact ⟨rfl, HB0.out⟩
end Go.Proofs.YtiebpncpdbnelaaDoor
namespace Go.Proofs.YtiebpncpdbnelaaDoor
open Go Go.RowKit
structure It where
 i : Nat
 d : Nat
 Rel : Value → World → Prop
def NewV (w : World) (v : Value) : Prop := ∀ g o, v = .pointer (some ⟨g, o, none⟩) → w.1.size ≤ g
def OldV (w : World) (v : Value) : Prop := ∀ g o, v = .pointer (some ⟨g, o, none⟩) → g < w.1.size
def putV (v : Nat → Value) (l : List It) (a : Act) : Act := l.foldl (fun a m => a.put (some m.d) (v m.i)) a
def okL (md : Region.Mode) (ops : Array Oper) : Nat → List Nat → Array Bool → Bool
 | 0, _, _ => true
 | k + 1, I, listed => !(Region.ready md ops listed).isEmpty && (Region.ready md ops listed).all (fun j => I.contains j && okL md ops k (I.erase j) (listed.setIfInBounds j true))
theorem putV_comm {v : Nat → Value} {m : It} {x : Value} : ∀ {l : List It} {a : Act}, (∀ y ∈ l, y.d ≠ m.d) → putV v l (a.put (some m.d) x) = (putV v l a).put (some m.d) x
 | [], _, _ => rfl
 | y :: l, a, h => by
  show putV v l ((a.put (some m.d) x).put (some y.d) (v y.i)) = (putV v l (a.put (some y.d) (v y.i))).put (some m.d) x
  have hx := h y (List.mem_cons_self ..)
  have e : (a.put (some m.d) x).put (some y.d) (v y.i) = (a.put (some y.d) (v y.i)).put (some m.d) x := by
   simp only [Act.put]
   rw [Array.setIfInBounds_comm _ _ (Ne.symm hx)]
  rw [e, putV_comm (fun z hz => h z (List.mem_cons_of_mem _ hz))]
theorem putV_congr {v v' : Nat → Value} : ∀ {l : List It} {a : Act}, (∀ y ∈ l, v y.i = v' y.i) → putV v l a = putV v' l a
 | [], _, _ => rfl
 | y :: l, a, h => by
  show putV v l (a.put (some y.d) (v y.i)) = putV v' l (a.put (some y.d) (v' y.i))
  rw [h y (List.mem_cons_self ..), putV_congr (fun z hz => h z (List.mem_cons_of_mem _ hz))]
section
variable {P : Program} {ops : Array Oper} {Q : Exit → Act → World → Prop} {md : Region.Mode} {S : World → Prop}
theorem wpAnyH_items : ∀ (k : Nat) (Ms : List It) (_ : Ms.length = k) (fuel : Nat) (listed : Array Bool) (a : Act) (w : World)
  (_ : (Ms.map (·.d)).Nodup) (_ : (Ms.map (·.i)).Nodup) (_ : okL md ops k (Ms.map (·.i)) listed = true) (_ : ∀ w', Below w.1.size w w' → S w')
  (_ : ∀ m ∈ Ms, ∀ x w1 w2, Below w1.1.size w1 w2 → m.Rel x w1 → m.Rel x w2)
  (_ : ∀ m ∈ Ms, ∀ a' w', (∀ s, (∀ m' ∈ Ms, m'.d ≠ s) → a'.eval (.tmp s) = a.eval (.tmp s)) → Below w.1.size w w' →
   wpOp P ops Q m.i (fun a2 w2 => ∃ x, a2 = a'.put (some m.d) x ∧ m.Rel x w2 ∧ Below w'.1.size w' w2 ∧ NewV w' x ∧ OldV w2 x) a' w')
  (_ : ∀ (v : Nat → Value) (w' : World), Below w.1.size w w' → (∀ m ∈ Ms, m.Rel (v m.i) w' ∧ NewV w (v m.i) ∧ OldV w' (v m.i)) →
   (∀ m ∈ Ms, ∀ m' ∈ Ms, m.i ≠ m'.i → ∀ g o g' o', v m.i = .pointer (some ⟨g, o, none⟩) → v m'.i = .pointer (some ⟨g', o', none⟩) → g ≠ g') →
   wpAnyH P md ops Q S fuel (markL (Ms.map (·.i)) listed) (putV v Ms a) w'),
  wpAnyH P md ops Q S (fuel + k) listed a w
 | 0, Ms, hk, fuel, listed, a, w, _, _, _, _, _, _, h => by
  have : Ms = [] := List.eq_nil_of_length_eq_zero hk
  subst this
  exact h (fun _ => undef) w bR (fun m hm => by cases hm) (fun m hm => by cases hm)
 | k + 1, Ms, hk, fuel, listed, a, w, hd, hi, hO, hS, hmono, hstep, h => by
  unfold okL at hO
  rw [Bool.and_eq_true, List.all_eq_true] at hO
  obtain ⟨hne, hO⟩ := hO
  refine ⟨fun h0 => by rw [h0] at hne; simp at hne, fun j hj => ?_⟩
  have hOj := hO j hj
  rw [Bool.and_eq_true] at hOj
  have hjm : j ∈ Ms.map (·.i) := by simpa using hOj.1
  obtain ⟨m, hm, rfl⟩ := List.mem_map.1 hjm
  refine wpOp_mono ?_ (hstep m hm a w (fun _ _ => rfl) bR)
  rintro a2 w2 ⟨x, rfl, hrel, hb, hnew, hold⟩
  have hbw : ∀ w', Below w2.1.size w2 w' → Below w.1.size w w' := fun w' h' => hb.trans (h'.mono hb.size)
  refine ⟨hS _ hb, ?_⟩
  obtain ⟨M1, M2, rfl⟩ := List.append_of_mem hm
  have hd' := hd
  have hi' := hi
  simp only [List.map_append, List.map_cons] at hd' hi'
  rw [List.nodup_append, List.nodup_cons] at hd' hi'
  have hne1 : ∀ y ∈ M1 ++ M2, y.d ≠ m.d := fun y hy e => by
   rcases List.mem_append.1 hy with hy | hy
   ·exact hd'.2.2 y.d (List.mem_map.2 ⟨y, hy, rfl⟩) m.d (List.mem_cons_self ..) e
   ·exact hd'.2.1.1 (List.mem_map.2 ⟨y, hy, e⟩)
  have hne2 : ∀ y ∈ M1 ++ M2, y.i ≠ m.i := fun y hy e => by
   rcases List.mem_append.1 hy with hy | hy
   ·exact hi'.2.2 y.i (List.mem_map.2 ⟨y, hy, rfl⟩) m.i (List.mem_cons_self ..) e
   ·exact hi'.2.1.1 (List.mem_map.2 ⟨y, hy, e⟩)
  have hsub : ∀ y ∈ M1 ++ M2, y ∈ M1 ++ m :: M2 := fun y hy => by
   rcases List.mem_append.1 hy with hy | hy
   ·exact List.mem_append_left _ hy
   ·exact List.mem_append_right _ (List.mem_cons_of_mem _ hy)
  have hcase : ∀ y ∈ M1 ++ m :: M2, y = m ∨ y ∈ M1 ++ M2 := fun y hy => by
   rcases List.mem_append.1 hy with hy | hy
   ·exact .inr (List.mem_append_left _ hy)
   ·rcases List.mem_cons.1 hy with rfl | hy
    ·exact .inl rfl
    ·exact .inr (List.mem_append_right _ hy)
  have hm1 : m.i ∉ M1.map (·.i) := fun h' => by
   obtain ⟨y, hy, e⟩ := List.mem_map.1 h'
   exact hne2 y (List.mem_append_left _ hy) e
  have hmi : m.i ∉ (M1 ++ M2).map (·.i) := fun h' => by
   obtain ⟨y, hy, e⟩ := List.mem_map.1 h'
   exact hne2 y hy e
  have her : ((M1 ++ m :: M2).map (·.i)).erase m.i = (M1 ++ M2).map (·.i) := by
   simp only [List.map_append, List.map_cons]
   rw [List.erase_append_right _ hm1, List.erase_cons_head]
  have hok := hOj.2
  rw [her] at hok
  refine wpAnyH_items k (M1 ++ M2) (by simp at hk ⊢; omega) fuel _ _ _ ?_ ?_ hok (fun w' h' => hS _ (hbw w' h')) (fun y hy => hmono y (hsub y hy)) ?_ ?_
  ·simp only [List.map_append]
   rw [List.nodup_append]
   exact ⟨hd'.1, hd'.2.1.2, fun x hx y hy => hd'.2.2 x hx y (List.mem_cons_of_mem _ hy)⟩
  ·simp only [List.map_append]
   rw [List.nodup_append]
   exact ⟨hi'.1, hi'.2.1.2, fun x hx y hy => hi'.2.2 x hx y (List.mem_cons_of_mem _ hy)⟩
  ·intro y hy a' w' hfr hb'
   refine hstep y (hsub y hy) a' w' (fun s hs => ?_) (hbw w' hb')
   rw [hfr s (fun z hz => hs z (hsub z hz)), eval_put_ne (hs m hm)]
  ·intro v w' hb' hv hap
   have hmk : markL ((M1 ++ M2).map (·.i)) (listed.setIfInBounds m.i true) = markL ((M1 ++ m :: M2).map (·.i)) listed := by
    simp only [List.map_append, List.map_cons, markL, List.foldl_append, List.foldl_cons]
    have := markL_comm (x := listed) hm1
    unfold markL at this
    rw [this]
   have hpt : ∀ v' : Nat → Value, v' m.i = x → (∀ y ∈ M1 ++ M2, v' y.i = v y.i) → putV v (M1 ++ M2) (a.put (some m.d) x) = putV v' (M1 ++ m :: M2) a := fun v' h1 h2 => by
    rw [putV_congr (fun y hy => (h2 y hy).symm)]
    simp only [putV, List.foldl_append, List.foldl_cons]
    have := putV_comm (v := v') (m := m) (x := x) (a := a) (l := M1) (fun y hy => hne1 y (List.mem_append_left _ hy))
    unfold putV at this
    rw [this, h1]
   obtain ⟨v', hv1, hv2⟩ : ∃ v' : Nat → Value, v' m.i = x ∧ ∀ y ∈ M1 ++ M2, v' y.i = v y.i := ⟨fun i => if i = m.i then x else v i, by simp, fun y hy => by simp [hne2 y hy]⟩
   rw [hmk, hpt v' hv1 hv2]
   refine h v' w' (hbw w' hb') (fun y hy => ?_) (fun y hy z hz hyz g o g' o' e1 e2 => ?_)
   ·rcases hcase y hy with rfl | hy
    ·rw [hv1]
     exact ⟨hmono y hm _ _ _ hb' hrel, fun g o e => hnew g o e, fun g o e => Nat.lt_of_lt_of_le (hold g o e) hb'.size⟩
    ·rw [hv2 y hy]
     obtain ⟨r1, r2, r3⟩ := hv y hy
     exact ⟨r1, fun g o e => Nat.le_trans hb.size (r2 g o e), r3⟩
   ·rcases hcase y hy with ey | hy'
    ·rcases hcase z hz with ez | hz'
     ·exact absurd (by rw [ey, ez]) hyz
     ·rw [ey, hv1] at e1
      rw [hv2 z hz'] at e2
      have q1 := hold g o e1
      have q2 := (hv z hz').2.1 g' o' e2
      omega
    ·rcases hcase z hz with ez | hz'
     ·rw [ez, hv1] at e2
      rw [hv2 y hy'] at e1
      have q1 := hold g' o' e2
      have q2 := (hv y hy').2.1 g o e1
      omega
     ·rw [hv2 y hy'] at e1
      rw [hv2 z hz'] at e2
      exact hap y hy' z hz' hyz g o g' o' e1 e2
end
end Go.Proofs.YtiebpncpdbnelaaDoor
namespace Go.Proofs.YtiebpncpdbnelaaDoor
open Go Go.RowKit
section
variable {P : Program} {ops : Array Oper} {Q : Exit → Act → World → Prop}
theorem wpOp_call {i d f : Nat} {xs : Array Operand} {ats : Array TypeId} {ty : TypeId} {pos : String} {after : Array Edge} {a : Act} {w : World} {K : Act → World → Prop} {vs : Array Value} {R : Ending → World → Prop}
  (ho : ops[i]? = some ⟨some d, .call { callee := .value (.func f), args := xs, argTypes := ats }, ty, pos, after, none⟩) (hv : xs.map a.eval = vs) (hc : (callFunc f vs).run P w = .ok (.enter f vs) w)
  (h : Calls P f vs w R) (hR : ∀ e w', R e w' → ∃ v, e = .returned v ∧ K (a.put (some d) v) w') : wpOp P ops Q i K a w := by
 refine wpOp_step ho (fun K' hk => ?_)
 have hw : Region.wanted ⟨some d, .call { callee := .value (.func f), args := xs, argTypes := ats }, ty, pos, after, none⟩ (yielded ops a.tmps) = true := by simp [Region.wanted]
 rw [if_pos hw]
 unfold Oper.wp
 rw [execOp_call_go]
 have e : (#[] ++ xs.map a.eval ++ #[] : Array Value) = vs := by rw [hv]; simp
 rw [e, hc]
 rw [Oper.upon_enter]
 refine h.mono ?_
 intro e w' hr
 obtain ⟨v, rfl, hv⟩ := hR e w' hr
 exact hk _ _ hv
theorem wpOp_alloc {i d t : Nat} {ty : TypeId} {pos : String} {after : Array Edge} {a : Act} {w : World} {K : Act → World → Prop} {ob : Obj}
  (ho : ops[i]? = some ⟨some d, .alloc t, ty, pos, after, none⟩) (hr : (execOp a.eval ⟨some d, .alloc t, ty, pos, after, none⟩).run P w = .ok (.value (.pointer (some ⟨w.1.size, 0, none⟩))) (w.alloc ob))
  (hK : K (a.put (some d) (.pointer (some ⟨w.1.size, 0, none⟩))) (w.alloc ob)) : wpOp P ops Q i K a w := by
 refine wpOp_step ho (fun K' hk => ?_)
 have hw : Region.wanted ⟨some d, .alloc t, ty, pos, after, none⟩ (yielded ops a.tmps) = true := by simp [Region.wanted]
 rw [if_pos hw]
 unfold Oper.wp
 rw [hr, Oper.upon_value]
 exact hk _ _ hK
end
end Go.Proofs.YtiebpncpdbnelaaDoor
