/- Texts that stand one behind the other, in one file. -/
import Derived.Test.YtiebpncpdbnelaaDoorAt10
set_option maxHeartbeats 4000000
set_option maxRecDepth 100000
namespace Go.Proofs.YtiebpncpdbnelaaDoor
open Go.RowKit
def heavy30 (a : Aut) (ns nl : Nat) : Bool :=
 decide (24 < a.nodes.length) || (decide (60 < a.init.length) || (decide (12 < ns) || (decide (12 < nl) || a.nodes.any (fun x => decide (60 < x.to.length)))))
theorem heavy30_bd {a : Aut} {ns nl : Nat} (h : heavy30 a ns nl = false) : a.nodes.length ≤ 24 ∧ a.init.length ≤ 60 ∧ ns ≤ 12 ∧ nl ≤ 12 ∧ ∀ x ∈ a.nodes, x.to.length ≤ 60 := by
 simp only [heavy30, Bool.or_eq_false_iff, decide_eq_false_iff_not, List.any_eq_false] at h
 obtain ⟨h1, h2, h3, h4, h5⟩ := h
 exact ⟨by omega, by omega, by omega, by omega, fun l hl => by have := h5 l hl; simp at this; omega⟩
theorem any_snoc30 {α : Type} {l : List α} {p : α → Bool} {k : Nat} (hk : k < l.length) : (l.take (k + 1)).any p = ((l.take k).any p || p l[k]) := by
 have e : l.take (k + 1) = l.take k ++ [l[k]] := by rw [List.take_add_one, gE hk]; rfl
 rw [e, List.any_append, List.any_cons, List.any_nil, Bool.or_false]
theorem any_of30 {α : Type} {l : List α} {p : α → Bool} {k : Nat} (hk : k < l.length) (h : p l[k] = true) : l.any p = true := List.any_eq_true.2 ⟨_, mM hk, h⟩
theorem heavy30_any (a : Aut) (Ai : Option Addr) (ni ci : Nat) (An : Option Addr) (nn cn : Nat) (As : Option Addr) (ns cs : Nat) (Al : Option Addr) (nl cl : Nat) (w : World) (B : Nat) (h : AutRd w B a Ai ni ci An nn cn) (hB : B ≤ w.1.size) :
  Calls Tryd.prog 24 #[.agg #[.int .i64 a.sets, .slice Ai ni ci, .slice An nn cn], .agg #[.slice As ns cs, .slice Al nl cl]] w (Tru w (heavy30 a ns nl)) := by
 obtain ⟨hb0, x0, y0, z0⟩ := two_new w (.cells #[.int .i64 a.sets, .slice Ai ni ci, .slice An nn cn] 25) (.cells #[.slice As ns cs, .slice Al nl cl] 29)
 obtain ⟨W0, hW0⟩ := xQ ((w.alloc (.cells #[.int .i64 a.sets, .slice Ai ni ci, .slice An nn cn] 25)).alloc (.cells #[.slice As ns cs, .slice Al nl cl] 29))
 rw [hW0] at hb0 x0 y0 z0
 have HR0 := dh (h.below hb0 hB)
 have HW0 := dh hW0
 have HB0 := dh hb0
 have q1 : W0.cell? ⟨w.1.size, 1, none⟩ = some (.slice Ai ni ci) := cR x0
 have q2 : W0.cell? ⟨w.1.size, 2, none⟩ = some (.slice An nn cn) := cR x0
 have p0 : W0.cell? ⟨w.1.size + 1, 0, none⟩ = some (.slice As ns cs) := cR y0
 have p1 : W0.cell? ⟨w.1.size + 1, 1, none⟩ = some (.slice Al nl cl) := cR y0
 have HNN := dh HR0.out.enn
 have HD : Hid (heavy30 a ns nl = (decide (24 < nn) || (decide (60 < ni) || (decide (12 < ns) || (decide (12 < nl) || a.nodes.any (fun x => decide (60 < x.to.length))))))) := dh (by rw [heavy30, h.eni, h.enn])
 clear hW0 hb0 x0 y0 z0 h hB
 by_cases c0 : 24 < nn
 ·have d0 : decide ((24 : Int) < (nn : Int)) = true := by simp; omega
  have HR : Hid (heavy30 a ns nl = true) := dh (by rw [HD.out, decide_eq_true c0]; simp)
  clear c0 HD
  go_enter Tryd.func24, Tryd.ntmps24
  go_upto_region 1 with fail
  rw [HW0.out]
  go_wp2_with fail
  go_ret
  exact ⟨ret_bool (by simp [HR.out]), HB0.out⟩
 ·have d0 : decide ((24 : Int) < (nn : Int)) = false := by simp; omega
  by_cases c1 : 60 < ni
  ·have d1 : decide ((60 : Int) < (ni : Int)) = true := by simp; omega
   have HR : Hid (heavy30 a ns nl = true) := dh (by rw [HD.out, decide_eq_false c0, decide_eq_true c1]; simp)
   clear c0 c1 HD
   go_enter Tryd.func24, Tryd.ntmps24
   go_upto_region 1 with fail
   rw [HW0.out]
   go_wp2_with fail
   go_ret
   exact ⟨ret_bool (by simp [HR.out]), HB0.out⟩
  ·have d1 : decide ((60 : Int) < (ni : Int)) = false := by simp; omega
   by_cases c2 : 12 < ns
   ·have d2 : decide ((12 : Int) < (ns : Int)) = true := by simp; omega
    have HR : Hid (heavy30 a ns nl = true) := dh (by rw [HD.out, decide_eq_false c0, decide_eq_false c1, decide_eq_true c2]; simp)
    clear c0 c1 c2 HD
    go_enter Tryd.func24, Tryd.ntmps24
    go_upto_region 1 with fail
    rw [HW0.out]
    go_wp2_with fail
    go_ret
    exact ⟨ret_bool (by simp [HR.out]), HB0.out⟩
   ·have d2 : decide ((12 : Int) < (ns : Int)) = false := by simp; omega
    by_cases c3 : 12 < nl
    ·have d3 : decide ((12 : Int) < (nl : Int)) = true := by simp; omega
     have HR : Hid (heavy30 a ns nl = true) := dh (by rw [HD.out, decide_eq_false c0, decide_eq_false c1, decide_eq_false c2, decide_eq_true c3]; simp)
     clear c0 c1 c2 c3 HD
     go_enter Tryd.func24, Tryd.ntmps24
     go_upto_region 1 with fail
     rw [HW0.out]
     go_wp2_with fail
     go_ret
     exact ⟨ret_bool (by simp [HR.out]), HB0.out⟩
    ·have d3 : decide ((12 : Int) < (nl : Int)) = false := by simp; omega
     have HD2 : Hid (heavy30 a ns nl = a.nodes.any (fun x => decide (60 < x.to.length))) := dh (by rw [HD.out, decide_eq_false c0, decide_eq_false c1, decide_eq_false c2, decide_eq_false c3]; rfl)
     clear HD c1 c2 c3
     go_enter Tryd.func24, Tryd.ntmps24
     go_upto_region 1 with fail
     rw [HW0.out]
     go_wp2_with fail
     clear d0 d1 d2 d3 p0 p1 q1
     go_loopw [5] (fun i wr => ∃ k : Nat, k ≤ nn ∧ i = .int .i64 k ∧ wr = W0 ∧ Hid ((a.nodes.take k).any (fun x => decide (60 < x.to.length)) = false)) (fun i _ => nn - (intOf i).toNat)
     case atStart => exact ⟨0, by omega, rfl, by trivial, dh rfl⟩
     case round =>
      obtain ⟨k, hk, rfl, rfl, ht⟩ := hrel
      by_cases hlt : k < nn
      ·have hkE : k < a.nodes.length := by rw [← HNN.out]; exact hlt
       have hk1 : (k : Int) < (nn : Int) := by omega
       have hk0 : (0 : Int) ≤ (k : Int) := by omega
       have wk : IntKind.i64.wrap ((k : Int) + 1) = (k : Int) + 1 := by rw [wI]; omega
       obtain ⟨b, o, x, At, ct, rfl, hbl, hx, e0, e1, e2, e3, hst⟩ := rd_aut HR0.out hlt
       have hxe : a.nodes[k] = x := by
        rw [gE hkE] at hx; exact Option.some.inj hx
       have hs1 := any_snoc30 (p := fun x : ANd => decide (60 < x.to.length)) hkE
       have hof := fun h => any_of30 (p := fun x : ANd => decide (60 < x.to.length)) hkE h
       rw [hxe] at hs1 hof
       have HS := dh hs1
       have HO := dh hof
       clear hs1 hof hst hx hxe e0 e1 e2
       by_cases hcc : 60 < x.to.length
       ·have d4 : decide ((60 : Int) < (x.to.length : Int)) = true := by simp; omega
        have HC := dh (HO.out (decide_eq_true hcc))
        clear hcc
        go_wp2_with fail
        go_ret
        exact ⟨ret_bool (by simp [HD2.out, HC.out]), HB0.out⟩
       ·have d4 : decide ((60 : Int) < (x.to.length : Int)) = false := by simp; omega
        have HC := dh (decide_eq_false hcc)
        clear hcc
        go_wp2_with fail
        go_roundw
        case rel => exact ⟨k + 1, by omega, congrArg (Value.int .i64) (by omega), by trivial, dh (by rw [HS.out, ht.out, HC.out]; rfl)⟩
        case measure => simp [intOf]; omega
      ·have HT : Hid (a.nodes.any (fun x => decide (60 < x.to.length)) = false) := dh (by have := ht.out; rwa [tL (by rw [← HNN.out]; omega)] at this)
       clear ht
       go_wp2_with fail
       go_ret
       exact ⟨ret_bool (by simp [HD2.out, HT.out]), HB0.out⟩
end Go.Proofs.YtiebpncpdbnelaaDoor
namespace Go.Proofs.YtiebpncpdbnelaaDoor
def pathE (E : List (List Nd)) (goal : List Bool) (from_ : List Int) : List Int × Bool := pathG E.length (farE E goal) E from_
section
variable {E : List (List Nd)} {goal : List Bool} {from_ : List Int}
theorem far_lt {i : Nat} (hi : i < E.length) : (farE E goal).getD i 0 < E.length := by
 have hok := farE_ok E goal
 by_cases h : 0 ≤ (farE E goal).getD i 0
 ·obtain ⟨j, hj⟩ := List.getElem?_of_mem (hok.mem i hi h)
  have h1 := (hok.at_ j _ hj).2
  have h2 := (gB.1 hj).1
  have h3 : (dstN E.length (turnE E) (goalsG E.length goal) E.length).1.countP (fun x => decide (0 ≤ x)) ≤ (dstN E.length (turnE E) (goalsG E.length goal) E.length).1.length := List.countP_le_length
  rw [hok.len, ← hok.cnt] at h3
  rw [tN] at h1
  have h4 : (farE E goal).getD i 0 ≤ (j : Int) := h1
  omega
 ·omega
theorem pathW_way : ∀ (K a : Nat), a < E.length → (farE E goal).getD a 0 = (K : Int) → ∃ (p : List Nat) (b : Nat), pathW E.length (farE E goal) E K (a : Int) = natI (p ++ [b]) ∧ NWay (Arc E) a p b ∧ b < E.length ∧ (farE E goal).getD b 0 = 0 ∧ p.length = K
 | 0, a, ha, hd => ⟨[], a, rfl, .nil a, ha, hd, rfl⟩
 | K + 1, a, ha, hd => by
  obtain ⟨h1, h2, h3⟩ := (farE_Dn E goal).next (a := (a : Int)) (k := K) (isNd_iff.2 ⟨by omega, by omega⟩) (by rw [tN]; exact hd)
  obtain ⟨x, hx, hxl⟩ := isNd_nat h1
  rw [hx, tN] at h2
  rw [hx, tN] at h3
  obtain ⟨p, b, e1, e2, e3, e4, e5⟩ := pathW_way K x hxl h2
  refine ⟨a :: p, b, ?_, .cons ⟨ha, hxl, h3⟩ e2, e3, e4, by rw [List.length_cons, e5]⟩
  rw [pathW, hx, e1]
  rfl
theorem NWay.lead {R : Nat → Nat → Prop} {a b : Nat} {p : List Nat} (h : NWay R a p b) : Lead R a b := by
 induction h with
 | nil a => exact .refl a
 | cons r _ ih => exact .step r ih
theorem path_way (h : (pathE E goal from_).2 = true) : ∃ (a b : Nat) (p : List Nat), pathE E goal from_ = (natI (p ++ [b]), true) ∧ NWay (Arc E) a p b ∧ (a : Int) ∈ from_ ∧ a < E.length ∧ b < E.length ∧ goal.getD b false = true ∧ p.length < E.length := by
 unfold pathE pathG at h ⊢
 split at h
 ·cases h
 ·next hb =>
  rw [if_neg hb]
  rcases bestG_ok (n := E.length) (D := farE E goal) from_ with h0 | ⟨h1, h2, h3⟩
  ·rw [h0] at hb; omega
  ·obtain ⟨a, ha, hal⟩ := isNd_nat h1
   rw [ha] at h2 h3 ⊢
   rw [tN] at h2 ⊢
   obtain ⟨K, hK⟩ : ∃ K : Nat, (farE E goal).getD a 0 = (K : Int) := ⟨((farE E goal).getD a 0).toNat, by omega⟩
   obtain ⟨p, b, e1, e2, e3, e4, e5⟩ := pathW_way K a hal hK
   rw [hK, tN, e1]
   refine ⟨a, b, p, rfl, e2, h3, hal, e3, ?_, ?_⟩
   ·have h5 := ((farE_ok E goal).zero b e3).1 e4
    exact (goalsG_mem e3).1 h5
   ·have := far_lt (goal := goal) hal
    omega
theorem path_iff : (pathE E goal from_).2 = true ↔ ∃ i k : Nat, (i : Int) ∈ from_ ∧ i < E.length ∧ k < E.length ∧ goal.getD k false = true ∧ Lead (Arc E) i k := by
 constructor
 ·intro h
  obtain ⟨a, b, p, _, h1, h2, h3, h4, h5, _⟩ := path_way h
  exact ⟨a, b, h2, h3, h4, h5, h1.lead⟩
 ·rintro ⟨i, k, h1, h2, h3, h4, h5⟩
  have hd : 0 ≤ (farE E goal).getD i 0 := (far_rch (turn_TOk E) (goalsG_ok _ _) h2).2 ((rch_lead rfl h2).2 ⟨k, h3, (goalsG_mem h3).2 h4, h5⟩)
  have hb := bestG_ge (n := E.length) (D := farE E goal) (l := from_) ⟨(i : Int), h1, isNd_iff.2 ⟨by omega, by omega⟩, by rw [tN]; exact hd⟩
  unfold pathE pathG
  rw [if_neg (by omega)]
end
end Go.Proofs.YtiebpncpdbnelaaDoor
namespace Go.Proofs.YtiebpncpdbnelaaDoor
theorem NWay.src {R : Nat → Nat → Prop} {a b : Nat} {l : List Nat} (h : NWay R a l b) : ∀ x ∈ l, ∃ y, R x y := by
 induction h with
 | nil a => intro x hx; cases hx
 | cons r _ ih =>
  intro x hx
  rcases List.mem_cons.1 hx with rfl | hx
  ·exact ⟨_, r⟩
  ·exact ih x hx
theorem NWay.mono {R S : Nat → Nat → Prop} (h : ∀ a b, R a b → S a b) {a b : Nat} {l : List Nat} (w : NWay R a l b) : NWay S a l b := by
 induction w with
 | nil a => exact .nil a
 | cons r _ ih => exact .cons (h _ _ r) ih
theorem lasso_acc {a : Aut} (hA : a.Ok) {x v : Nat} {S L : List Nat} (hS : NWay (Arc (openE a)) x S v) (hL : NWay (Arc (openE a)) v L v) (hne : L ≠ []) (hx : (x : Int) ∈ a.init)
  (hm : ∀ i, i < a.sets.toNat → ∃ u ∈ L, (a.at u).inn.testBit i = true) : Acc a ((S ++ L).map (fun q => (a.at q).need)) S.length := by
 obtain ⟨T, hT⟩ := xR (S ++ L)
 have hn0 : 0 < L.length := List.length_pos_iff.2 hne
 have hTl : T.length = S.length + L.length := by rw [hT, lA]
 have hlp : S.length < T.length := by omega
 have hW := hS.app hL
 rw [← hT] at hW ⊢
 have hsrc : ∀ q ∈ T, q < a.nodes.length ∧ canB (a.at q) = true := by
  intro q hq
  obtain ⟨y, hy⟩ := hW.src q hq
  have hlt := (open_lt hy).1
  exact ⟨hlt, ((arc_open hA hlt).1 hy).2.2.1⟩
 have hmem : ∀ i, i < T.length → T.getD i 0 ∈ T := fun i hi => by
  rw [gD, gE hi]; exact mM hi
 have hget : ∀ i, i < T.length → T[i]? = some (T.getD i 0) := fun i hi => by
  rw [gD, gE hi]; rfl
 have hv : T.getD S.length 0 = v := by
  have h0 := hL.head
  rw [gC hn0] at h0
  rw [hT, gD, gR lR, Nat.sub_self, h0]; rfl
 have hstep : ∀ i, i < T.length → Arc (openE a) (T.getD i 0) (T.getD (nx S.length T.length i) 0) := by
  intro i hi
  refine hW.at_ i _ _ (hget i hi) ?_
  unfold nx
  by_cases e : i + 1 < T.length
  ·rw [if_pos e, gC e]; exact hget _ e
  ·rw [if_neg e, hv, gR (by omega), show i + 1 - T.length = 0 by omega]; rfl
 have hWl : (T.map (fun q => (a.at q).need)).length = T.length := List.length_map _
 have hplc : ∀ k, plc S.length T.length k < T.length := plc_lt hlp
 refine ⟨fun k => T.getD (plc S.length T.length k) 0, ?_, fun k => (hsrc _ (hmem _ (hplc k))).1, fun k => ?_, fun k => ?_, fun i hi k => ?_⟩
 ·have h0 := hW.head
  rw [gC (by omega), hget 0 (by omega)] at h0
  injection h0 with h0
  show ((T.getD 0 0 : Nat) : Int) ∈ a.init
  rw [h0]; exact hx
 ·rw [hWl]
  have e : (T.map (fun q => (a.at q).need)).getD (plc S.length T.length k) 0 = (a.at (T.getD (plc S.length T.length k) 0)).need := by
   rw [gD, List.getElem?_map, hget _ (hplc k)]; rfl
  rw [e]
  have hc := (hsrc _ (hmem _ (hplc k))).2
  unfold canB at hc
  unfold rdsB
  rw [Nat.and_self, Nat.and_comm, of_decide_eq_true hc]; simp
 ·have h1 := hstep _ (hplc k)
  exact ((arc_open hA (hsrc _ (hmem _ (hplc k))).1).1 h1).2.1
 ·obtain ⟨u, hu, hb⟩ := hm i hi
  obtain ⟨t, ht⟩ := List.getElem?_of_mem hu
  have htl := (gB.1 ht).1
  have hpl : ∀ k, plc S.length T.length k = if k < S.length then k else S.length + (k - S.length) % L.length := by
   intro k
   induction k with
   | zero =>
    rw [plc]
    split
    ·rfl
    ·next e => rw [show 0 - S.length = 0 by omega, Nat.zero_mod]; omega
   | succ k ih =>
    rw [plc, ih]
    by_cases e : k < S.length
    ·rw [if_pos e]
     by_cases e2 : k + 1 < S.length
     ·rw [if_pos e2]
      unfold nx
      rw [if_pos (show k + 1 < T.length by omega)]
     ·have e3 : k + 1 = S.length := by omega
      rw [if_neg e2, e3, Nat.sub_self, Nat.zero_mod]
      unfold nx
      rw [if_pos (show k + 1 < T.length by omega)]; omega
    ·have e' : ¬ k + 1 < S.length := by omega
     rw [if_neg e, if_neg e']
     have hmod := Nat.mod_lt (k - S.length) hn0
     have e4 : k + 1 - S.length = (k - S.length) + 1 := by omega
     have h5 := Nat.mod_add_mod (k - S.length) L.length 1
     rw [e4, ← h5]
     generalize (k - S.length) % L.length = x at *
     unfold nx
     by_cases e5 : x + 1 < L.length
     ·rw [if_pos (show S.length + x + 1 < T.length by omega), Nat.mod_eq_of_lt e5]; omega
     ·rw [if_neg (show ¬ S.length + x + 1 < T.length by omega), show x + 1 = L.length by omega, Nat.mod_self]; rfl
  have hk : k ≤ L.length * k := Nat.le_mul_of_pos_left k hn0
  refine ⟨S.length + (L.length * k + t), by omega, ?_⟩
  rw [hpl, if_neg (by omega), show S.length + (L.length * k + t) - S.length = L.length * k + t by omega, Nat.mul_add_mod, Nat.mod_eq_of_lt htl, hT, gD, gR (by omega), show S.length + t - S.length = t by omega, ht]
  exact hb
def innerE (E : List (List Nd)) (part : List Nat) : List (List Nd) := (List.range E.length).map (fun i => if i ∈ part then (E.getD i []).filter (fun e => decide (e.op.toNat ∈ part)) else [])
theorem innerE_len (E : List (List Nd)) (part : List Nat) : (innerE E part).length = E.length := by simp [innerE]
theorem innerE_at {E : List (List Nd)} {part : List Nat} {i : Nat} (hi : i < E.length) : (innerE E part).getD i [] = if i ∈ part then (E.getD i []).filter (fun e => decide (e.op.toNat ∈ part)) else [] := by simp [innerE, List.getD, hi]
section
variable {E : List (List Nd)} {part : List Nat}
theorem arc_inner {i j : Nat} : Arc (innerE E part) i j ↔ Arc E i j ∧ i ∈ part ∧ j ∈ part := by
 unfold Arc
 rw [innerE_len]
 constructor
 ·rintro ⟨h1, h2, h3⟩
  rw [innerE_at h1] at h3
  split at h3
  ·next hp =>
   simp only [tgts, List.mem_map] at h3
   obtain ⟨e, he, hj⟩ := h3
   obtain ⟨h4, h5⟩ := List.mem_filter.1 he
   rw [hj, tN] at h5
   exact ⟨⟨h1, h2, by simp only [tgts, List.mem_map]; exact ⟨e, h4, hj⟩⟩, hp, of_decide_eq_true h5⟩
  ·simp [tgts] at h3
 ·rintro ⟨⟨h1, h2, h3⟩, h4, h5⟩
  refine ⟨h1, h2, ?_⟩
  rw [innerE_at h1, if_pos h4]
  simp only [tgts, List.mem_map] at h3 ⊢
  obtain ⟨e, he, hj⟩ := h3
  exact ⟨e, List.mem_filter.2 ⟨he, by rw [hj, tN]; exact decide_eq_true h5⟩, hj⟩
theorem lead_inner {m : Nat} (hl : ∀ x, x ∈ part ↔ x < E.length ∧ Mut E m x) {x y : Nat} (hx : x ∈ part) (hy : y ∈ part) (h : Lead (Arc E) x y) : Lead (Arc (innerE E part)) x y := by
 induction h with
 | refl a => exact .refl a
 | step r k ih =>
  have h1 := (hl _).1 hx
  have h2 := (hl _).1 hy
  have hb := (hl _).2 ⟨r.2.1, h1.2.1.snoc r, k.trans h2.2.2⟩
  exact .step (arc_inner.2 ⟨r, hx, hb⟩) (ih hb hy)
def Rnd0 (E : List (List Nd)) (part : List Nat) (ins : List Nat) (at_ : Nat) (done : List Nat) (out : List Nat) : Prop :=
 ∃ p b, out = p ++ [b] ∧ NWay (Arc (innerE E part)) at_ p b ∧ b ∈ part ∧ ∀ j ∈ done, ∃ u ∈ out, (ins.getD u 0).testBit j = true
theorem Rnd0.start {ins : List Nat} {v : Nat} (hv : v ∈ part) : Rnd0 E part ins v [] [v] := ⟨[], v, rfl, .nil v, hv, fun j hj => by cases hj⟩
theorem way_part {x y : Nat} {l : List Nat} (h : NWay (Arc (innerE E part)) x l y) (hx : x ∈ part) : y ∈ part := by
 induction h with
 | nil a => exact hx
 | cons r _ ih => exact ih (arc_inner.1 r).2.2
theorem Rnd0.step {ins : List Nat} {v : Nat} {done out : List Nat} {l : List Nat} {b c : Nat} (h : Rnd0 E part ins v done out) (hb : out.getLast? = some b) (hw : NWay (Arc (innerE E part)) b l c) : Rnd0 E part ins v done (out ++ (l ++ [c]).drop 1) ∧ (out ++ (l ++ [c]).drop 1).getLast? = some c := by
 obtain ⟨p, b', rfl, h1, h2, h3⟩ := h
 rw [List.getLast?_append, List.getLast?_singleton] at hb
 simp at hb
 subst hb
 cases hw with
 | nil a => simp only [List.nil_append, List.drop_one, List.tail_cons, List.append_nil]; exact ⟨⟨p, _, rfl, h1, h2, h3⟩, by simp⟩
 | @cons _ b2 _ l' r k =>
  have e : (p ++ [b']) ++ ((b' :: l') ++ [c]).drop 1 = (p ++ (b' :: l')) ++ [c] := by simp
  rw [e]
  refine ⟨⟨p ++ (b' :: l'), c, rfl, h1.app (.cons r k), way_part (.cons r k) h2, fun j hj => ?_⟩, List.getLast?_concat⟩
  obtain ⟨u, hu, hub⟩ := h3 j hj
  refine ⟨u, ?_, hub⟩
  rcases List.mem_append.1 hu with hu | hu
  ·exact List.mem_append_left _ (List.mem_append_left _ hu)
  ·rw [mS] at hu
   subst hu
   exact List.mem_append_left _ (List.mem_append_right _ (List.mem_cons_self ..))
theorem Rnd0.met {ins : List Nat} {v : Nat} {done out : List Nat} {c j : Nat} (h : Rnd0 E part ins v done out) (hc : out.getLast? = some c) (hj : (ins.getD c 0).testBit j = true) : Rnd0 E part ins v (done ++ [j]) out := by
 obtain ⟨p, b, h0, h1, h2, h3⟩ := h
 refine ⟨p, b, h0, h1, h2, fun k hk => ?_⟩
 rcases List.mem_append.1 hk with hk | hk
 ·exact h3 k hk
 ·rw [mS] at hk
  subst hk
  exact ⟨c, List.mem_of_getLast? hc, hj⟩
theorem Rnd0.close {ins : List Nat} {v : Nat} {done out : List Nat} (h : Rnd0 E part ins v done out) (hl : 1 < out.length) (hc : out.getLast? = some v) : ∃ L, out.take (out.length - 1) = L ∧ L ≠ [] ∧ NWay (Arc (innerE E part)) v L v ∧ ∀ j ∈ done, ∃ u ∈ L, (ins.getD u 0).testBit j = true := by
 obtain ⟨p, b, rfl, h1, h2, h3⟩ := h
 rw [List.getLast?_append, List.getLast?_singleton] at hc
 simp at hc
 subst hc
 have e : (p ++ [b]).take ((p ++ [b]).length - 1) = p := by simp
 rw [e]
 have hp : p ≠ [] := by rintro rfl; simp at hl
 refine ⟨p, rfl, hp, h1, fun j hj => ?_⟩
 obtain ⟨u, hu, hub⟩ := h3 j hj
 rcases List.mem_append.1 hu with hu | hu
 ·exact ⟨u, hu, hub⟩
 ·rw [mS] at hu
  subst hu
  have h0 := h1.head
  rw [gC (List.length_pos_iff.2 hp)] at h0
  exact ⟨u, List.mem_of_getElem? h0, hub⟩
end
end Go.Proofs.YtiebpncpdbnelaaDoor
