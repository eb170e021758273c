/- Texts that stand one behind the other, in one file. -/
import Derived.Test.YtiebpncpdbnelaaGreatDoorZbc
import Derived.Test.YtiebpncpdbnelaaGreatDoorZbd
set_option maxHeartbeats 4000000
set_option maxRecDepth 100000
namespace Go.Proofs.YtiebpncpdbnelaaGreatDoor
open Go.RowKit Go.Shelf
theorem and_bit7 {x y : Nat} (hx : x < 2 ^ 64) (hy : y < 2 ^ 64) : bits .and .u64 (x : Int) (y : Int) = ((x &&& y : Nat) : Int) := by
 have hand : x &&& y < 2 ^ 64 := Nat.lt_of_le_of_lt Nat.and_le_left hx
 show IntKind.u64.wrap ((BitVec.ofInt 64 (x : Int) &&& BitVec.ofInt 64 (y : Int)).toNat : Int) = _
 rw [BitVec.toNat_and, BitVec.ofInt_natCast, BitVec.toNat_ofNat, BitVec.ofInt_natCast, BitVec.toNat_ofNat, Nat.mod_eq_of_lt hx, Nat.mod_eq_of_lt hy, IntKind.wrap_u64]
 omega
theorem grown_below {W W1 : World} (hb : Below W.1.size W W1) : W.grownBy W1 none := ⟨hb.os, hb.tape, hb.output, hb.size, fun k hk _ => hb.block k hk⟩
theorem own_on {β : Type} {B : Nat} {I : β → World → Prop} (h : OwnFrom B I) {s : β} {W W1 : World} (hs : I s W) (hb : Below W.1.size W W1) : I s W1 := h s W W1 none hs (grown_below hb) (fun r e => by cases e)
theorem below_tch {M : Nat → Prop} {W W1 : World} (hb : Below W.1.size W W1) : Tch M W W1 := ⟨hb.os, hb.tape, hb.output, hb.size, fun k hk _ => hb.block k hk⟩
noncomputable def goodK (E : List (List Nd)) (ins : List Nat) (s k : Nat) : List (List Nat) := ((scParts (ofC E)).take k).filter (goodP E ins s)
theorem goodK_snoc (E : List (List Nd)) (ins : List Nat) (s : Nat) {k : Nat} (hk : k < (scParts (ofC E)).length) : goodK E ins s (k + 1) = goodK E ins s k ++ (if goodP E ins s (scParts (ofC E))[k] = true then [(scParts (ofC E))[k]] else []) := by
 unfold goodK
 rw [take_snoc _ k hk, List.filter_append]
 congr 1
 rw [List.filter_cons, List.filter_nil]
theorem goodK_all (E : List (List Nd)) (ins : List Nat) (s : Nat) : goodK E ins s (scParts (ofC E)).length = goodL E ins s := by
 unfold goodK goodL
 rw [List.take_length]
theorem goodK_pre (E : List (List Nd)) (ins : List Nat) (s k : Nat) : goodK E ins s k <+: goodL E ins s := by
 unfold goodK goodL
 obtain ⟨t, ht⟩ := List.take_prefix k (scParts (ofC E))
 exact ⟨t.filter (goodP E ins s), by rw [← List.filter_append, ht]⟩
theorem ins_at {ins : List Nat} {x : Nat} (hx : x < ins.length) : (ucellsN ins)[x]? = some (.int .u64 ((ins.getD x 0 : Nat) : Int)) := by
 simp [ucellsN, List.getD, hx]
theorem rnd_below {M N : Nat → Prop} {W W1 : World} {B : Nat} (h : Rnd M W N W1) (hB : B ≤ W.1.size) (hm : ∀ k, M k → B ≤ k) : Below B W W1 :=
 ⟨h.tch.os, h.tch.tape, h.tch.output, h.tch.size, fun k hk => h.tch.block k (by omega) (fun e => by have := hm k e; omega)⟩
theorem good1_in (m : Nat) (hm : 1 ≤ m) (E : List (List Nd)) (ins : List Nat) (s : Nat) (vi vl : Value) (ae : Option Addr) (ne ce : Nat) (ac : Option Addr) (nc cc : Nat) (l pb B : Nat) (M : Nat → Prop) (J Jx : List (List Nat) × (Nat → Prop) → World → Prop) (W : World)
  (hM : ∀ k, M k → k < W.1.size) (hKeep : ∀ W', Tch M W W' → Sl2 W' W'.1.size 2 ae ne ce (E.map ncells) ∧ Sl W' W'.1.size 1 ac nc cc (ucellsN ins)) (hpb : W.1[pb]? = some (.cells #[vi, .slice ae ne ce, vl, .slice ac nc cc, .int .u64 (allB s : Int)] 57 (0, 0))) (hpM : ¬ M pb)
  (hE : Sl2 W B 2 ae ne ce (E.map ncells)) (hI : Sl W B 1 ac nc cc (ucellsN ins)) (hBW : B ≤ W.1.size) (hEn : ∀ r ∈ E, ∀ e ∈ r, isNd E.length e.op = true) (hN : ne ≤ 1000000) (hr : ∀ r ∈ E, r.length ≤ 1000000) (hil : ins.length = E.length) (h64 : ∀ x, ins.getD x 0 < 2 ^ 64) (hs : s ≤ 16)
  (hJ : OwnFrom W.1.size J) (_hJx : OwnFrom W.1.size Jx)
  (hY : ∀ pre x N args W1, J (pre, N) W1 → PartIn x N args W1 → pre ++ [x] <+: goodL E ins s → YieldAt Fence.wide (m - 1) Tryz.prog l args W1 fun e W' => ∃ N', Rnd N W1 N' W' ∧
   ((e = .returned (.bool true) ∧ J (pre ++ [x], N') W') ∨ (e = .returned (.bool false) ∧ Jx (pre ++ [x], N') W')))
  (h0 : J ([], M) W) :
  CallsIn Fence.wide m Tryz.prog 69 #[.func (.yield l) #[] #[], .pointer (some ⟨pb, 0, none⟩)] W fun e W' => (∃ v, e = .returned v) ∧
   ((∃ N, J (goodL E ins s, N) W') ∨ (∃ pre N, pre <+: goodL E ins s ∧ Jx (pre, N) W')) := by
 have HNE : Hid (ne = E.length) := dh (by have := hE.len; simpa using this)
 have hpW : pb < W.1.size := (aI.1 hpb).1
 have HNC : Hid (nc = ins.length) := dh (by have := hI.len; rw [ucellsN_len] at this; omega)
 have HIL := dh hil
 clear hil
 have hcc := hI.cap
 have hmc := hI.max
 unfold maxLen at hmc
 have q0 : W.cell? ⟨pb, 0, none⟩ = some vi := cR hpb
 have q1 : W.cell? ⟨pb, 1, none⟩ = some (.slice ae ne ce) := cR hpb
 have q2 : W.cell? ⟨pb, 2, none⟩ = some vl := cR hpb
 have HPA := dh (parts_any E vi vl ae ne ce B W hE hBW hEn hN hr)
 have HPB := dh hpb
 have HH0 := dh h0
 have HE := dh hE
 have HI := dh hI
 have HA64 : Hid (allB s < 2 ^ 64) := dh (by
  unfold allB
  have : 2 ^ s ≤ 2 ^ 16 := Nat.pow_le_pow_right (by omega) hs
  omega)
 have H64 := dh h64
 clear hpb h0 hE hI h64
 refine callsIn_of_wp Tryz.func69 rfl trivial ?_ rfl
 simp only [Tryz.ntmps69, List.size_toArray, List.length_cons, List.length_nil, Nat.reduceAdd, Nat.reduceSub, Array.replicate_succ, Array.replicate_zero, List.push_toArray, List.append_toArray, List.nil_append, List.cons_append]
 gi_wp2_with (refine ⟨trivial, ?_⟩; gi_at_call 70; refine (callsIn_wide.2 HPA.out).mono ?_; rintro e W1 ⟨of, v, vs, hok, rfl, hrows, hb⟩; obtain rfl := hok.eq; obtain ⟨Ap, cp, rfl, -⟩ := hrows.sl2; have HRO := dh hrows; have HB1 := dh hb; clear hrows hb)
 have hz1 := HB1.out.size
 have HJ1 : Hid (J ([], M) W1) := dh (own_on hJ HH0.out HB1.out)
 have HPL : Hid ((scParts (ofC E)).length ≤ ne) := dh (by rw [HNE.out]; exact parts_len E)
 have HPE : Hid ((ricells (scParts (ofC E))).length = (scParts (ofC E)).length) := dh (by simp [ricells])
 rw [HPE.out] at HRO ⊢
 obtain ⟨np, hnp⟩ := xQ (scParts (ofC E)).length
 have HNP := dh hnp
 have hnle : np ≤ ne := by rw [← hnp]; exact HPL.out
 rw [hnp] at HRO ⊢
 clear hnp
 gi_loopw [12] (fun p wr => ∃ (k : Nat) (N : Nat → Prop), p = .int .i64 (k : Int) ∧ k ≤ np ∧ Hid (J (goodK E ins s k, N) wr) ∧ Hid (Rnd M W1 N wr))
  (fun p _ => np - (intOf p).toNat)
 case atStart => exact ⟨0, M, rfl, Nat.zero_le _, dh (by have : goodK E ins s 0 = [] := rfl
                                                         rw [this]; exact HJ1.out), dh (Rnd.refl (fun k hk => by have := hM k hk; omega))⟩
 case round =>
  obtain ⟨k, N, rfl, hk, HJs, HRs⟩ := hrel
  have hwr := HRs.out.tch.size
  by_cases hlt : k < np
  ·have wk : IntKind.i64.wrap ((k : Int) + 1) = (k : Int) + 1 := by rw [wI]; omega
   have hk0 : (0 : Int) ≤ (k : Int) := by omega
   have hk1 : (k : Int) < (np : Int) := by omega
   have hkl : k < (scParts (ofC E)).length := by rw [HNP.out]; exact hlt
   obtain ⟨P, hP⟩ := xQ ((scParts (ofC E))[k])
   have HSN := dh (goodK_snoc E ins s hkl)
   rw [hP] at HSN
   have hPm : P ∈ scParts (ofC E) := by rw [← hP]; exact mM hkl
   have HPlt := dh (part_lt hPm)
   have HPle := dh (part_len hPm)
   have hnot : ∀ j, j < W1.1.size → W.1.size ≤ j → ¬ M j := fun j _ h2 e => by have := hM j e; omega
   have HOW : Hid (Own2 wr W.1.size 3 22 1 (.slice Ap np cp) (ricells (scParts (ofC E))) vs) := dh (HRO.out.tch HRs.out.tch (fun g hg e => by
    have h1 := HRO.out.main.lt g hg
    exact HRs.out.not (k := g) h1.2 (hnot g h1.2 h1.1) (by first | exact e | exact absurd e (hnot g h1.2 h1.1))) (fun j u g hu hg e => by
    have h1 := HRO.out.rowlt hu g hg
    exact HRs.out.not (k := g) h1.2 (hnot g h1.2 h1.1) (by first | exact e | exact absurd e (hnot g h1.2 h1.1))))
   have hPr : (ricells (scParts (ofC E)))[k]? = some (icells (natI P)) := by
    unfold ricells
    rw [List.getElem?_map, gE hkl, hP]; rfl
   obtain ⟨u, n, hu, hou⟩ := HOW.out.row k _ hPr
   have hn : n = P.length := by have := hou.1; rw [icells_len, natI_len] at this; omega
   subst hn
   obtain ⟨Au, cu, rfl, hsu⟩ := own_sl hou
   have hcu := hsu.cap
   have hmu := hsu.max
   unfold maxLen at hmu
   obtain ⟨gp, capp, hf, -, -⟩ := HOW.out.form (by rw [HPE.out, HNP.out]; omega)
   cases hf
   have cu0 := HOW.out.cell hu
   have HOU := dh hou
   have HSU := dh hsu
   have hpbr : wr.1[pb]? = some _ := ((HRs.out.tch.block pb (by omega) hpM).trans (HB1.out.block pb hpW)).trans HPB.out
   have c0 : wr.cell? ⟨pb, 0, none⟩ = some vi := cR hpbr
   have c1 : wr.cell? ⟨pb, 1, none⟩ = some (.slice ae ne ce) := cR hpbr
   have c2 : wr.cell? ⟨pb, 2, none⟩ = some vl := cR hpbr
   have c3 : wr.cell? ⟨pb, 3, none⟩ = some (.slice ac nc cc) := cR hpbr
   have c4 : wr.cell? ⟨pb, 4, none⟩ = some (.int .u64 (allB s : Int)) := cR hpbr
   have hkp := hKeep wr ((below_tch HB1.out : Tch M W W1).then_ HRs.out.tch)
   have HIr := dh hkp.2
   have HEr := dh hkp.1
   clear hkp
   obtain ⟨np', hnp'⟩ := xQ P.length
   have HNPP := dh hnp'
   have hple : np' ≤ ne := by have := HPle.out; rw [HNE.out]; omega
   rw [hnp'] at hcu cu0 HSU HOU
   have hu0 := hu
   clear hu hou hsu hpbr hnp' hP hPm hPr q0 q1 q2 hkl
   gi_wp2
   gi_loopw [18, 5] (fun i o w' => ∃ q : Nat, q ≤ np' ∧ i = .int .i64 (q : Int) ∧ o = .int .u64 ((orL ins (P.take q) : Nat) : Int) ∧ w' = wr) (fun i _ _ => np' - (intOf i).toNat)
   case atStart => exact ⟨0, by omega, rfl, rfl, rfl⟩
   case round =>
    obtain ⟨q, hq, rfl, rfl, rfl⟩ := hrel
    by_cases hql : q < np'
    ·have wq : IntKind.i64.wrap ((q : Int) + 1) = (q : Int) + 1 := by rw [wI]; omega
     have hq0 : (0 : Int) ≤ (q : Int) := by omega
     have hq1 : (q : Int) < (np' : Int) := by omega
     have hqP : q < P.length := by rw [HNPP.out]; exact hql
     obtain ⟨b1, o1, hA1, hb1, hcl⟩ := HSU.out.rd.at_ (nat_at hqP)
     subst hA1
     obtain ⟨x, hx⟩ := xQ (P.getD q 0)
     have hxe : P[q] = x := by rw [← hx, gD, gE hqP]; rfl
     have hxm : x ∈ P := by rw [← hxe]; exact mM hqP
     have hxN := HPlt.out x hxm
     have hxi : x < ins.length := by rw [HIL.out]; exact hxN
     have hxc : x < nc := by rw [HNC.out]; exact hxi
     have hx0 : (0 : Int) ≤ (x : Int) := by omega
     have hx1 : (x : Int) < (nc : Int) := by omega
     obtain ⟨b2, o2, hA2, hb2, hcl2⟩ := HIr.out.rd.at_ (ins_at hxi)
     subst hA2
     have ho : orL ins (P.take q) < 2 ^ 64 := orL_lt H64.out _
     have hor := or_bit ho (H64.out x)
     have HOS : Hid (orL ins (P.take (q + 1)) = orL ins (P.take q) ||| ins.getD x 0) := dh (by rw [take_snoc P q hqP, hxe, orL_snoc])
     rw [hx] at hcl
     clear hx hxe hxm
     generalize orL ins (P.take q) = ov at *
     generalize ins.getD x 0 = iv at *
     gi_wp2
     go_roundw
     case rel => exact ⟨q + 1, by omega, congrArg (Value.int .i64) (by omega), by rw [HOS.out], trivial⟩
     case measure => simp [intOf]; omega
    ·have hqe : q = np' := by omega
     subst hqe
     have HTK : Hid (P.take q = P) := dh (tL (by rw [HNPP.out]; exact lR))
     rw [HTK.out]
     have ho : orL ins P < 2 ^ 64 := orL_lt H64.out _
     have hand := and_bit7 ho HA64.out
     have hgood : goodP E ins s P = (decide (orL ins P &&& allB s = allB s) && cycB E P) := rfl
     by_cases hall : orL ins P &&& allB s = allB s
     ·rw [hall] at hand
      rw [decide_eq_true hall, Bool.true_and] at hgood
      have hcyc := cyclic_any E vi vl ae ne ce wr.1.size wr P Au q cu HEr.out lR HSU.out (by rw [HNE.out]; exact HPlt.out) hr hN
      generalize orL ins P = ov at *
      cases hcb : cycB E P
      ·rw [hcb] at hcyc hgood
       have HG : Hid (goodK E ins s (k + 1) = goodK E ins s k) := dh (by rw [HSN.out, hgood]; simp)
       have HC := dh hcyc
       clear hcyc hgood hall hcb
       gi_wp2
       refine ⟨trivial, (callsIn_wide.2 HC.out).mono ?_⟩
       rintro e w3 ⟨rfl, hb3⟩
       have HB3 := dh hb3
       have HJ3 := dh (own_on (ownFrom_mono hJ (show W.1.size ≤ W.1.size by omega)) HJs.out hb3)
       clear hb3
       gi_wp2
       refine ⟨(fun f h => by cases h), ?_⟩
       gi_wp2
       go_roundw
       case rel => exact ⟨k + 1, N, congrArg (Value.int .i64) (by omega), by omega, dh (by rw [HG.out]; exact HJ3.out), dh (HRs.out.tch_right (below_tch HB3.out))⟩
       case measure => simp [intOf]; omega
      ·rw [hcb] at hcyc hgood
       have HG : Hid (goodK E ins s (k + 1) = goodK E ins s k ++ [P]) := dh (by rw [HSN.out, hgood]; simp)
       have HC := dh hcyc
       clear hcyc hgood hall hcb
       gi_wp2
       refine ⟨trivial, (callsIn_wide.2 HC.out).mono ?_⟩
       rintro e w3 ⟨rfl, hb3⟩
       have HB3 := dh hb3
       have HJ3 := dh (own_on hJ HJs.out hb3)
       have hou3 : w3.ownsRow 0 3 1 (.slice Au q cu) P.length (icells (natI P)) := by
        rw [HNPP.out]
        exact own_base (own_below HOU.out hb3) (Nat.zero_le _)
       have HPI : Hid (PartIn P N #[.slice Au q cu] w3) := dh ⟨_, rfl, hou3, fun g hg e => by
        have h1 := HOU.out.lt g hg
        have h2 : g < W1.1.size := by
         have := HRO.out.rowlt hu0 g (by rw [HNPP.out]; exact hg)
         exact this.2
        exact HRs.out.not h2 (hnot g h2 h1.1) e⟩
       have hyv := hY (goodK E ins s k) P N #[.slice Au q cu] w3 HJ3.out HPI.out (by rw [← HG.out]; exact goodK_pre E ins s (k + 1))
       obtain ⟨fn, tmps, assign, body, hy, hR⟩ := hyv
       clear hb3 hou3 HPI
       gi_wp2
       refine hR.mono ?_
       rintro e W3 ⟨N3, hk3, (⟨rfl, hJ3⟩ | ⟨rfl, hJx3⟩)⟩
       ·gi_wp2
        go_roundw
        case rel => exact ⟨k + 1, N3, congrArg (Value.int .i64) (by omega), by omega, dh (by rw [HG.out]; exact hJ3), dh ((HRs.out.tch_right (below_tch HB3.out)).trans hk3)⟩
        case measure => simp [intOf]; omega
       ·gi_wp2
        refine bodyPost_ret (results_none rfl _ _ _) rfl ?_
        exact ⟨⟨_, rfl⟩, .inr ⟨goodK E ins s k ++ [P], N3, by rw [← HG.out]; exact goodK_pre E ins s (k + 1), hJx3⟩⟩
     ·have hne2 : (((orL ins P &&& allB s : Nat) : Int) == ((allB s : Nat) : Int)) = false := by
       rw [beq_eq_false_iff_ne]
       exact fun e => hall (by omega)
      rw [decide_eq_false hall, Bool.false_and] at hgood
      have HG : Hid (goodK E ins s (k + 1) = goodK E ins s k) := dh (by rw [HSN.out, hgood]; simp)
      clear hgood hall
      generalize orL ins P = ov at *
      gi_wp2
      refine ⟨trivial, ?_⟩
      gi_wp2
      refine ⟨(fun f h => by cases h), ?_⟩
      gi_wp2
      go_roundw
      case rel => exact ⟨k + 1, N, congrArg (Value.int .i64) (by omega), by omega, dh (by rw [HG.out]; exact HJs.out), HRs⟩
      case measure => simp [intOf]; omega
  ·have hkn : k = np := by omega
   subst hkn
   gi_wp2
   go_end0
   exact ⟨⟨_, rfl⟩, .inl ⟨N, by have := HJs.out; rw [← HNP.out, goodK_all] at this; exact this⟩⟩
theorem playGood_any (vi ve vl vn va : Value) (w : World) :
  Calls Tryz.prog 53 #[.agg #[vi, ve, vl, vn, va]] w fun e w' => e = .returned (.func (.func 69) #[] #[.pointer (some ⟨w.1.size, 0, none⟩)]) ∧ w' = w.alloc (.cells #[vi, ve, vl, vn, va] 57) := by
 go_enter Tryz.func53, Tryz.ntmps53
 go_wp2
 go_ret
 exact ⟨rfl, rfl⟩
theorem good_K (m : Nat) (hm : 1 ≤ m) (E : List (List Nd)) (ins : List Nat) (s : Nat) (vi vl : Value) (ae : Option Addr) (ne ce : Nat) (ac : Option Addr) (nc cc : Nat) (pb : Nat) (M : Nat → Prop) (w : World)
  (hM : ∀ k, M k → k < w.1.size) (hKeep : ∀ W', Tch M w W' → Sl2 W' W'.1.size 2 ae ne ce (E.map ncells) ∧ Sl W' W'.1.size 1 ac nc cc (ucellsN ins)) (hpb : w.1[pb]? = some (.cells #[vi, .slice ae ne ce, vl, .slice ac nc cc, .int .u64 (allB s : Int)] 57 (0, 0))) (hpM : ¬ M pb)
  (hEn : ∀ r ∈ E, ∀ e ∈ r, isNd E.length e.op = true) (hN : ne ≤ 1000000) (hr : ∀ r ∈ E, r.length ≤ 1000000) (hil : ins.length = E.length) (h64 : ∀ x, ins.getD x 0 < 2 ^ 64) (hs : s ≤ 16) :
  SeqR Fence.wide m Tryz.prog 69 #[.pointer (some ⟨pb, 0, none⟩)] PartIn M (goodL E ins s) w := fun l J Jx W hW hl hlW hJ hJx hY h0 =>
 good1_in m hm E ins s vi vl ae ne ce ac nc cc l pb W.1.size (ext l M) J Jx W (fun k e => e.elim (fun e => Nat.lt_of_lt_of_le (hM k e) hW.size) (fun e => e ▸ hlW)) (fun W' ht => hKeep W' (hW.wide (fun _ e => e.elim) |>.trans ht (fun k hk e => e.elim id (fun e => by omega))))
  ((hW.block pb (aI.1 hpb).1 (fun e => e)).trans hpb) (fun e => e.elim hpM (fun e => by have := (aI.1 hpb).1; omega))
  (hKeep W (hW.wide (fun _ e => e.elim))).1 (hKeep W (hW.wide (fun _ e => e.elim))).2 lR hEn hN hr hil h64 hs hJ hJx hY h0
theorem good_T (m : Nat) (hm : 1 ≤ m) (E : List (List Nd)) (ins : List Nat) (s : Nat) (vi vl : Value) (ae : Option Addr) (ne ce : Nat) (ac : Option Addr) (nc cc : Nat) (pb B : Nat) (M : Nat → Prop) (w : World)
  (hM : ∀ k, M k → k < w.1.size) (hMB : ∀ k, M k → B ≤ k) (hpb : w.1[pb]? = some (.cells #[vi, .slice ae ne ce, vl, .slice ac nc cc, .int .u64 (allB s : Int)] 57 (0, 0))) (hpM : ¬ M pb)
  (hE : Sl2 w B 2 ae ne ce (E.map ncells)) (hI : Sl w B 1 ac nc cc (ucellsN ins)) (hBW : B ≤ w.1.size) (hEn : ∀ r ∈ E, ∀ e ∈ r, isNd E.length e.op = true) (hN : ne ≤ 1000000) (hr : ∀ r ∈ E, r.length ≤ 1000000) (hil : ins.length = E.length) (h64 : ∀ x, ins.getD x 0 < 2 ^ 64) (hs : s ≤ 16) :
  SeqR Fence.wide m Tryz.prog 69 #[.pointer (some ⟨pb, 0, none⟩)] PartIn M (goodL E ins s) w :=
 good_K m hm E ins s vi vl ae ne ce ac nc cc pb M w hM (fun W' ht => have hb := ht.below hBW (fun k hk e => by have := hMB k e; omega); ⟨(hE.below hb lR).up (Nat.le_trans hBW ht.size), (hI.below hb lR).up (Nat.le_trans hBW ht.size)⟩) hpb hpM hEn hN hr hil h64 hs
end Go.Proofs.YtiebpncpdbnelaaGreatDoor
namespace Go.Proofs.YtiebpncpdbnelaaGreatDoor
open Go.RowKit
theorem canR_any (x : ANd) (A : Option Addr) (n c : Nat) (w : World) (hn : x.need < 2 ^ 64) (hb : x.ban < 2 ^ 64) :
  Calls Tryz.prog 76 #[.agg #[.int .u64 (x.need : Int), .int .u64 (x.ban : Int), .int .u64 (x.inn : Int), .slice A n c]] w (Tru w (canB x)) := by
 have hb0 : Below w.1.size w (w.alloc (.cells #[.int .u64 (x.need : Int), .int .u64 (x.ban : Int), .int .u64 (x.inn : Int), .slice A n c] 36)) := bR.alloc lR _
 have x0 := heap_alloc_new w (.cells #[.int .u64 (x.need : Int), .int .u64 (x.ban : Int), .int .u64 (x.inn : Int), .slice A n c] 36)
 obtain ⟨W0, hW0⟩ := xQ (w.alloc (.cells #[.int .u64 (x.need : Int), .int .u64 (x.ban : Int), .int .u64 (x.inn : Int), .slice A n c] 36))
 rw [hW0] at hb0 x0
 have HW0 := dh hW0
 have HB0 := dh hb0
 have q0 : W0.cell? ⟨w.1.size, 0, none⟩ = some (.int .u64 (x.need : Int)) := cR x0
 have q1 : W0.cell? ⟨w.1.size, 1, none⟩ = some (.int .u64 (x.ban : Int)) := cR x0
 have hand := and_bit7 hn hb
 have hd : ((((x.need &&& x.ban : Nat) : Int)) == 0) = canB x := by
  unfold canB
  rw [Bool.eq_iff_iff, beq_iff_eq, decide_eq_true_eq]
  omega
 obtain ⟨k, hk⟩ := xQ (x.need &&& x.ban)
 obtain ⟨v, hv⟩ := xQ (canB x)
 rw [hk] at hand hd
 rw [hv] at hd ⊢
 clear hW0 hb0 x0 hk hv
 go_enter Tryz.func76, Tryz.ntmps76
 go_upto_region 1 with fail
 rw [HW0.out]
 go_wp2_with fail
 go_ret
 exact ⟨ret_bool (by first | rfl | exact hd | simp [hd]), HB0.out⟩
theorem selfR_any (_a : Aut) (s : Value) (Ai : Option Addr) (ni ci : Nat) (An : Option Addr) (nn cn : Nat) (w : World) (hnn : nn ≤ 100000000) :
  Calls Tryz.prog 61 #[.agg #[s, .slice Ai ni ci, .slice An nn cn]] w (IntsPost w (natI (List.range nn))) := by
 have hb0 : Below w.1.size w (w.alloc (.cells #[s, .slice Ai ni ci, .slice An nn cn] 25)) := bR.alloc lR _
 have x0 := heap_alloc_new w (.cells #[s, .slice Ai ni ci, .slice An nn cn] 25)
 have z0 : (w.alloc (.cells #[s, .slice Ai ni ci, .slice An nn cn] 25)).1.size = w.1.size + 1 := by simp
 obtain ⟨W0, hW0⟩ := xQ (w.alloc (.cells #[s, .slice Ai ni ci, .slice An nn cn] 25))
 rw [hW0] at hb0 x0 z0
 have HW0 := dh hW0
 have HB0 := dh hb0
 have HX0 := dh x0
 have HZ0 := dh z0
 clear hW0 hb0 x0 z0
 go_enter Tryz.func61, Tryz.ntmps61
 go_upto_region 1 with fail
 rw [HW0.out]
 go_wp2_with fail
 go_loopw [4, 3] (fun i o wr => ∃ m : Nat, m ≤ nn ∧ i = .int .i64 (m : Int) ∧ Hid (wr.ownsRow W0.1.size 3 1 o (natI (List.range m)).length (icells (natI (List.range m)))) ∧ Hid (Below W0.1.size W0 wr)) (fun i _ _ => nn - (intOf i).toNat)
 case atStart => exact ⟨0, by omega, rfl, dh (World.ownsRow_nil _ _ _ _), dh bR⟩
 case round =>
  obtain ⟨m, hm, rfl, HO, HB⟩ := hrel
  have hz := HB.out.size
  have hx : wr.1[w.1.size]? = some _ := (HB.out.block w.1.size (by have := HZ0.out; omega)).trans HX0.out
  have q2 : wr.cell? ⟨w.1.size, 2, none⟩ = some (.slice An nn cn) := cR hx
  by_cases hlt : m < nn
  ·have wm : IntKind.i64.wrap ((m : Int) + 1) = (m : Int) + 1 := by rw [wI]; omega
   have hm1 : (m : Int) < (nn : Int) := by omega
   have HPx : Hid (natI (List.range (m + 1)) = natI (List.range m) ++ [(m : Int)]) := dh (by rw [List.range_succ, natI, List.map_append]; rfl)
   have hle : (natI (List.range m)).length = m := by simp [natI]
   generalize natI (List.range m) = Y at *
   have HLE := dh hle
   rw [hle] at HO
   clear hx hle
   obtain ⟨Au, cu, rfl, -⟩ := own_sl HO.out
   have hnw := dh (heap_alloc_new wr (.cells #[.int .i64 (m : Int)] 3))
   go_wp2_with (at_builtin; refine wpList_push rfl (.tmp 12) (.tmp 14) 22 rfl W0.1.size 3 1 8 sliceInt _ _ _ (HO.out.alloc _) rfl wr.1.size #[.int .i64 (m : Int)] rfl hnw.out rfl (by simp [Value.oneCell']) (by omega) (by omega) (by simp; omega) ?_; intro u' wA hown3 ht3 hat3 hne3; obtain ⟨g', cap', rfl, _⟩ := own_form hown3 (by omega); have HOA := dh hown3; have HBA := dh (HB.out.trans ((Tch.trans ((Tch.refl _ wr).alloc _) ht3 (fun _ _ h => h)).below hz (fun k hk e => by have := (HO.out.lt k e).1; omega))))
   exact ⟨⟨m + 1, by omega, congrArg (Value.int .i64) (by omega), dh (by rw [HPx.out, lA, icells_append, HLE.out]; simpa [icells] using HOA.out), HBA⟩, by simp [intOf]; omega⟩
  ·have hme : m = nn := by omega
   have HO2 : Hid (wr.ownsRow W0.1.size 3 1 u3 (natI (List.range nn)).length (icells (natI (List.range nn)))) := dh (by have := HO.out; rwa [hme] at this)
   clear HO hme hx
   go_wp2_with fail
   go_ret
   exact ⟨_, rfl, own_base HO2.out (by have := HZ0.out; omega), HB0.out.trans (HB.out.mono (by have := HZ0.out; omega))⟩
theorem keptR_any (u : List Bool) (l : List Int) (num : List Int) (A : Option Addr) (n c : Nat) (Aa : Option Addr) (N ca : Nat) (w : World) (B : Nat) (hnum : ∀ i, i < N → num.getD i 0 = if u.getD i false = true then ((numC u i : Nat) : Int) else -1) (hsa : Sl w B 1 Aa N ca (icells num)) (hs : Sl w B 1 A n c (icells l)) (hB : B ≤ w.1.size) (hl : ∀ t ∈ l, isNd N t = true) (hln : l.length ≤ 100000000) :
  Calls Tryz.prog 38 #[.slice A n c, .slice Aa N ca] w (IntsPost w (keptL u l)) := by
 have hn : n = l.length := by have := hs.len; rw [icells_len] at this; omega
 have hnA : N = num.length := by have := hsa.len; rw [icells_len] at this; omega
 have hcap := hs.cap
 have hmax := hs.max
 have hcapa := hsa.cap
 have hmaxa := hsa.max
 unfold maxLen at hmax hmaxa
 subst hn
 have HS := dh hs
 have HSA := dh hsa
 have HNA := dh hnA
 have HNUM := dh hnum
 have HL := dh hl
 clear hs hsa hnA hnum hl
 go_enter Tryz.func38, Tryz.ntmps38
 go_wp2_with fail
 go_loopw [6, 5] (fun i o wr => ∃ m : Nat, m ≤ l.length ∧ i = .int .i64 (m : Int) ∧ Hid (wr.ownsRow w.1.size 3 1 o (keptL u (l.take m)).length (icells (keptL u (l.take m)))) ∧ Hid (Below w.1.size w wr)) (fun i _ _ => l.length - (intOf i).toNat)
 case atStart => exact ⟨0, by omega, rfl, dh (World.ownsRow_nil _ _ _ _), dh bR⟩
 case round =>
  obtain ⟨m, hm, rfl, HO, HB⟩ := hrel
  have hz := HB.out.size
  by_cases hlt : m < l.length
  ·have wm : IntKind.i64.wrap ((m : Int) + 1) = (m : Int) + 1 := by rw [wI]; omega
   have hm0 : (0 : Int) ≤ (m : Int) := by omega
   have hm1 : (m : Int) < (l.length : Int) := by omega
   obtain ⟨b, off, rfl, hbl, hcl⟩ := rd_intS (HS.out.below HB.out hB) hlt
   obtain ⟨j, hj, hjN⟩ := isNd_nat (HL.out l[m] (mM hlt))
   have HSN := dh (keptL_snoc (u := u) hlt)
   have hnj := HNUM.out j hjN
   obtain ⟨bA, oA, rfl, hbA, hclA⟩ := rd_intS (k := j) (HSA.out.below HB.out hB) (by rw [← HNA.out]; exact hjN)
   have hgA : num.getD j 0 = num[j]'(by rw [← HNA.out]; exact hjN) := by rw [gD, gE (by rw [← HNA.out]; exact hjN)]; rfl
   have hj0 : (0 : Int) ≤ (j : Int) := by omega
   have hj1 : (j : Int) < (N : Int) := by omega
   rw [hj] at hcl HSN
   rw [tN] at HSN
   rw [← hgA, hnj] at hclA
   have hle : (keptL u (l.take m)).length ≤ m := Nat.le_trans keptL_le (by rw [List.length_take]; omega)
   clear hj hgA hnj
   cases hub : u.getD j false
   ·have HPx : Hid (keptL u (l.take (m + 1)) = keptL u (l.take m)) := dh (by rw [HSN.out, hub]; simp)
    rw [hub, if_neg (by decide)] at hclA
    clear hub
    go_wp2_with fail
    exact ⟨⟨m + 1, by omega, congrArg (Value.int .i64) (by omega), dh (by rw [HPx.out]; exact HO.out), HB⟩, by simp [intOf]; omega⟩
   ·have HPx : Hid (keptL u (l.take (m + 1)) = keptL u (l.take m) ++ [((numC u j : Nat) : Int)]) := dh (by rw [HSN.out, hub]; simp)
    rw [hub, if_pos rfl] at hclA
    have hc0 : (0 : Int) ≤ ((numC u j : Nat) : Int) := by omega
    have hc1 : decide (((numC u j : Nat) : Int) < 0) = false := by simp
    clear hub HSN
    generalize keptL u (l.take m) = Y at *
    obtain ⟨Au, cu, rfl, -⟩ := own_sl HO.out
    have hnw := dh (heap_alloc_new wr (.cells #[.int .i64 ((numC u j : Nat) : Int)] 3))
    go_wp2_with (at_builtin; refine wpList_push rfl (.tmp 21) (.tmp 29) 22 rfl w.1.size 3 1 8 sliceInt _ _ _ (HO.out.alloc _) rfl wr.1.size #[.int .i64 ((numC u j : Nat) : Int)] rfl hnw.out rfl (by simp [Value.oneCell']) (by omega) (by omega) (by simp; omega) ?_; intro u' wA hown3 ht3 hat3 hne3; obtain ⟨g', cap', rfl, _⟩ := own_form hown3 (by omega); have HOA := dh hown3; have HBA := dh (HB.out.trans ((Tch.trans ((Tch.refl _ wr).alloc _) ht3 (fun _ _ h => h)).below hz (fun k hk e => by have := (HO.out.lt k e).1; omega))))
    exact ⟨⟨m + 1, by omega, congrArg (Value.int .i64) (by omega), dh (by rw [HPx.out, lA, icells_append]; simpa [icells] using HOA.out), HBA⟩, by simp [intOf]; omega⟩
  ·have hme : m = l.length := by omega
   have HO2 : Hid (wr.ownsRow w.1.size 3 1 u5 (keptL u l).length (icells (keptL u l))) := dh (by have := HO.out; rwa [hme, List.take_length] at this)
   clear HO
   go_wp2_with fail
   go_ret
   exact ⟨_, rfl, HO2.out, HB.out⟩
end Go.Proofs.YtiebpncpdbnelaaGreatDoor
namespace Go.Proofs.YtiebpncpdbnelaaGreatDoor
open Go.RowKit
theorem shr_bit (x t : Nat) : (((x : Int) / 2 ^ t) % 2 == 1) = x.testBit t := by
 have h : ((x : Int) / 2 ^ t) = ((x / 2 ^ t : Nat) : Int) := by simp
 rw [h, Nat.testBit_eq_decide_div_mod_eq]
 by_cases h0 : x / 2 ^ t % 2 = 1
 ·rw [decide_eq_true h0]; exact beq_iff_eq.2 (by omega)
 ·rw [decide_eq_false h0]; exact beq_eq_false_iff_ne.2 (by omega)
theorem in30_any (a : Aut) (Ai : Option Addr) (ni ci : Nat) (An : Option Addr) (nn cn : Nat) (k t : Nat) (w : World) (B : Nat) (h : AutRd w B a Ai ni ci An nn cn) (hB : B ≤ w.1.size) (hk : k < nn) (ht : t ≤ 64) (_hnn : nn ≤ 1000000) :
  Calls Tryz.prog 90 #[.agg #[.int .i64 a.sets, .slice Ai ni ci, .slice An nn cn], .int .i64 (k : Int), .int .i64 (t : Int)] w (Tru w ((a.at k).inn.testBit t)) := by
 obtain ⟨s, hs⟩ := xQ a.sets
 rw [hs]
 have hb0 : Below w.1.size w (w.alloc (.cells #[.int .i64 s, .slice Ai ni ci, .slice An nn cn] 25)) := bR.alloc lR _
 obtain ⟨b, o, x, A, c, rfl, hbb, hx, c0, c1, c2, c3, -⟩ := rd_aut h hk
 have hax : a.at k = x := by unfold Aut.at; rw [gD, hx]; rfl
 rw [hax]
 have hbw : b < w.1.size := by omega
 have hk' : (k : Int) < (nn : Int) := by omega
 have hk0 : (0 : Int) ≤ (k : Int) := by omega
 have hw64 : IntKind.u64.wrap (t : Int) = t := by rw [IntKind.wrap_u64]; omega
 have hsb := shr_bit x.inn t
 have HSB := dh hsb
 clear hx hax hsb h hs c0 c1 c3
 go_enter Tryz.func90, Tryz.ntmps90
 go_wp2_with fail
 go_ret
 exact ⟨by rw [← HSB.out]; rfl, hb0⟩
end Go.Proofs.YtiebpncpdbnelaaGreatDoor
