/- The walks of layer 30 (auto): a graph's edges within a part. -/
import Derived.Test.YtiebpncpdbnelaaDoorZbm
set_option maxHeartbeats 4000000
set_option maxRecDepth 100000
namespace Go.Proofs.YtiebpncpdbnelaaDoor
open Go.RowKit
def endP (part : List Nat) (e : Nd) : Bool := decide (e.op.toNat ∈ part)
def innerK (E : List (List Nd)) (part : List Nat) (k : Nat) : List (List Nd) := (List.range E.length).map (fun i => if i ∈ part.take k then (E.getD i []).filter (endP part) else [])
theorem innerK_len (E : List (List Nd)) (part : List Nat) (k : Nat) : (innerK E part k).length = E.length := by simp [innerK]
theorem innerK_zero (E : List (List Nd)) (part : List Nat) : innerK E part 0 = List.replicate E.length [] := by
 refine List.ext_getElem (by simp [innerK]) (fun i h1 h2 => by simp [innerK])
theorem innerK_full (E : List (List Nd)) (part : List Nat) : innerK E part part.length = innerE E part := by
 unfold innerK innerE
 rw [List.take_length]; rfl
theorem innerK_succ {E : List (List Nd)} {part : List Nat} {k : Nat} (hk : k < part.length) (ha : part[k] < E.length) : innerK E part (k + 1) = (innerK E part k).set part[k] (E[part[k]].filter (endP part)) := by
 refine List.ext_getElem (by simp [innerK]) (fun i h1 h2 => ?_)
 rw [List.getElem_set]
 simp only [innerK, List.getElem_map, List.getElem_range, take_snoc part k hk, List.mem_append, mS]
 by_cases e : part[k] = i
 ·subst e; simp [List.getD, ha]
 ·rw [if_neg e]
  by_cases e2 : i ∈ part.take k
  ·rw [if_pos (.inl e2), if_pos e2]
  ·rw [if_neg (fun h => h.elim e2 (fun h => e h.symm)), if_neg e2]
theorem innerK_at {E : List (List Nd)} {part : List Nat} {k : Nat} (hk : k < part.length) (hn : part.Nodup) : innerK E part k = (innerK E part k).set part[k] [] := by
 refine List.ext_getElem (by simp) (fun i h1 h2 => ?_)
 rw [List.getElem_set]
 split
 ·rename_i e
  simp only [innerK, List.getElem_map, List.getElem_range]
  rw [if_neg (fun hm => ?_)]
  obtain ⟨j, hj⟩ := List.getElem?_of_mem hm
  have hjk : j < k := by have := (gB.1 hj).1; rw [List.length_take] at this; omega
  rw [List.getElem?_take_of_lt hjk] at hj
  have h3 := gE hk
  rw [e] at h3
  have := (List.getElem?_inj (by omega) hn).1 (hj.trans h3.symm)
  omega
 ·rfl
theorem filter_snocI {l : List Nd} {m : Nat} (p : Nd → Bool) (hm : m < l.length) : (l.take (m + 1)).filter p = (l.take m).filter p ++ if p l[m] = true then [l[m]] else [] := by
 rw [take_snoc l m hm, List.filter_append]
 congr 1
 rw [List.filter_cons, List.filter_nil]
def marksN (n : Nat) (part : List Nat) : List Bool := (List.range n).map (fun i => decide (i ∈ part))
theorem marksN_at {n : Nat} {part : List Nat} {i : Nat} (hi : i < n) : (marksN n part).getD i false = decide (i ∈ part) := by simp [marksN, List.getD, hi]
theorem marksN_snoc {n : Nat} {part : List Nat} {k : Nat} (hk : k < part.length) : marksN n (part.take (k + 1)) = (marksN n (part.take k)).set part[k] true := by
 refine List.ext_getElem (by simp [marksN]) (fun i h1 h2 => ?_)
 rw [List.getElem_set]
 simp only [marksN, List.getElem_map, List.getElem_range, take_snoc part k hk, List.mem_append, mS]
 by_cases e : part[k] = i
 ·rw [if_pos e]; simp [e]
 ·rw [if_neg e]
  have : (i ∈ part.take k ∨ i = part[k]) ↔ i ∈ part.take k := ⟨fun h => h.elim id (fun h => absurd h.symm e), .inl⟩
  simp only [this]
theorem marksN_zero (n : Nat) (part : List Nat) : marksN n (part.take 0) = List.replicate n false := by
 refine List.ext_getElem (by simp [marksN]) (fun i h1 h2 => by simp [marksN])
theorem TRel.keep {w0 w w1 : World} {g r ni nl ne q : Nat} {AA : Option Addr} {cA : Nat} {AB : Option Addr} {cB : Nat} {xi xl : List Value} {R : List (List Nd)} {cs : Array Value} (h : TRel w0 g r ni nl ne AA cA AB cB xi xl R w) (ht : Tch (fun k => k = q) w w1) (hq : w.1[q]? = some (.cells cs 4 (0, 0))) (hq0 : w0.1.size ≤ q) : TRel w0 g r ni nl ne AA cA AB cB xi xl R w1 := by
 obtain ⟨vs, s1, s2, s3, s4, s5⟩ := h
 have hno : ∀ {b : Nat} {e : TypeId} {size n : Nat} {v : Value} {xs : List Value}, w.ownsRow b e size v n xs → e ≠ 4 → ∀ g', v.ownBlock = some g' → ¬ (g' = q) := fun ho hne g' hg e => own_ne_blk ho hq hne (by rw [hg, e])
 refine ⟨vs, ht.blk s1 (fun e => ?_), s2.tch ht (hno s2.main (by decide)) (fun j u g' hu hg => ?_), own_tch s3 ht (hno s3 (by decide)), own_tch s4 ht (hno s4 (by decide)), s5.trans (ht.below s5.size (fun k hk e => by have e : k = q := e; omega))⟩
 ·have e : g = q := e
  rw [e, hq] at s1
  simp at s1
 ·have hj : j < (R.map ncells).length := by rw [← s2.len]; exact (gB.1 hu).1
  obtain ⟨u', n', hu', ho⟩ := s2.row j _ (gE hj)
  rw [hu] at hu'
  cases hu'
  exact hno ho (by decide) g' hg
section
variable (ai ae al : Option Addr) (ni ci ne ce nl cl : Nat)
theorem inner_any (G : Gph) (part : List Nat) (Ap : Option Addr) (cp : Nat) (w : World) (B : Nat) (h : GrRd w B ai ni ci ae ne ce al nl cl G) (hps : Sl w B 1 Ap part.length cp (icells (natI part))) (hpn : part.Nodup) (hpl : ∀ x ∈ part, x < ne) (hB : B ≤ w.1.size) (he : ne ≤ 1000000000) (K : Nat) (hr : ∀ l ∈ G.edges, l.length ≤ K) (hEn : ∀ l ∈ G.edges, ∀ e ∈ l, isNd G.edges.length e.op = true) (hK2 : K ≤ 1000000000) :
  Calls Tryd.prog 102 #[.agg #[.slice ai ni ci, .slice ae ne ce, .slice al nl cl], .slice Ap part.length cp] w (NewGr w ⟨[], innerE G.edges part, []⟩) := by
 obtain ⟨L1, L2, L3⟩ := h.lens
 obtain ⟨wx, hwx, hbx, hzx, hx0, hx1, hx2⟩ := boxed3 w (.slice ai ni ci) (.slice ae ne ce) (.slice al nl cl) 67
 obtain ⟨w0, hw0, hb0', hz0, hy0, hy1, hy2⟩ := boxed3 wx (.slice none 0 0) (.slice none 0 0) (.slice none 0 0) 67
 have hb0 : Below w.1.size w w0 := hbx.trans (hb0'.mono (by omega))
 have hx0 := bC hb0' (by omega) hx0
 have hx1 := bC hb0' (by omega) hx1
 have hx2 := bC hb0' (by omega) hx2
 have hr0 : w0.1[w.1.size + 1]? = some (.cells #[.slice none 0 0, .slice none 0 0, .slice none 0 0] 67 (0, 0)) := by
  rw [hw0, ← hzx]; exact heap_alloc_new wx _
 have hww : (w.alloc (.cells #[.slice ai ni ci, .slice ae ne ce, .slice al nl cl] 67)).alloc (.cells #[.slice none 0 0, .slice none 0 0, .slice none 0 0] 67) = w0 := by rw [← hwx, ← hw0]
 have HW0 := dh hww
 have hzl : w.1.size < w0.1.size := by omega
 have hzr : w.1.size + 1 < w0.1.size := by omega
 have HR0 := dh hr0
 have H1 := dh L1
 have H2 := dh L2
 have H3 := dh L3
 have h' := h.below hb0 hB
 clear hw0 hwx L1 L2 L3 hww hb0' hbx hy0 hy1 hy2 hr0
 have hmk := run_make_row' (P := Tryd.prog) 60 63 (.slice none 0 0) 24 Tryd.underlying60 infoRowE rfl .i64 .i64 ne (by omega) (by omega)
 have hs2 : w0.1.size = w.1.size + 1 + 1 := by omega
 clear hz0 hzx
 have hp' := hps.below hb0 hB
 have hmk2 := run_make_row' (P := Tryd.prog) 54 4 (.bool false) 1 Tryd.underlying54 infoB8 rfl .i64 .i64 ne (by omega) (by omega)
 have HPN := dh hpn
 have HPL := dh hpl
 have HEN := dh hEn
 have hcp := hps.cap
 have hmp := hps.max
 unfold maxLen at hmp
 obtain ⟨pn, hpq⟩ := xQ part.length
 have HPQ := dh hpq
 rw [hpq] at hp' hcp ⊢
 clear hps hpn hpl hEn hpq
 go_enter Tryd.func102, Tryd.ntmps102
 go_upto_region 2 with fail
 rw [HW0.out]
 have hst : TStart w0 0 0 ne [] [] (.pointer (some ⟨w.1.size + 1 + 1 + 1, 0, none⟩)) ((w0.alloc (.cells (madeCells #[.slice none 0 0] ne) 63)).alloc (.cells #[.slice none 0 0, .slice (some ⟨w.1.size + 1 + 1, 0, none⟩) ne ne, .slice none 0 0] 67)) := by
  rw [← hs2]
  refine ⟨w0.1.size + 1, none, 0, none, 0, w0.1.size, rfl, heap_new (by simp), heap_old (by simp) (heap_new rfl), World.ownsRow_nil _ _ _ _, World.ownsRow_nil _ _ _ _, below_al (by simp) (below_al lR bR), by omega, by omega, by omega⟩
 clear hs2
 obtain ⟨g, r, AA, cA, AB, cB, hge, hg, hT⟩ := TRel.start hst (by omega)
 rw [hge]
 clear hge hst
 generalize (w0.alloc (.cells (madeCells #[.slice none 0 0] ne) 63)).alloc (.cells #[.slice none 0 0, .slice (some ⟨w.1.size + 1 + 1, 0, none⟩) ne ne, .slice none 0 0] 67) = wc at *
 have hbF : Below w0.1.size w0 wc := hT.choose_spec.2.2.2.2
 have f1 := bC hbF hzl hx1
 clear hmk HW0
 obtain ⟨w5, hw5⟩ := xQ (wc.alloc (.cells (madeCells #[.bool false] ne) 4))
 have hzc := hbF.size
 have hb5 : Below wc.1.size wc w5 := by rw [← hw5]; exact bR.alloc lR _
 have hq5 : w5.1[wc.1.size]? = some (.cells (madeCells #[.bool false] ne) 4 (0, 0)) := by rw [← hw5]; exact heap_alloc_new wc _
 have hz5 : w5.1.size = wc.1.size + 1 := by rw [← hw5]; simp
 have hi5 : w5.ownsRow w0.1.size 4 1 (.slice (some ⟨wc.1.size, 0, none⟩) ne ne) ne (bcells (marksN ne (part.take 0))) := by
  rw [← hw5, marksN_zero, bcells, List.map_replicate]
  exact own_made hzc (by unfold maxLen; omega)
 have HI5 := dh hi5
 have HT5 := dh (hT.below hb5)
 have HB5 := dh (hbF.trans (hb5.mono hzc))
 have HQ5 := dh hq5
 go_upto_region 3 with fail
 clear hw5 hb5 hq5 hi5 f1 hmk2 hT
 go_wp2_with fail
 go_loopw [24] (fun i wr => ∃ k : Nat, k ≤ pn ∧ i = .int .i64 (k : Int) ∧ Hid (wr.ownsRow w0.1.size 4 1 (.slice (some ⟨wc.1.size, 0, none⟩) ne ne) ne (bcells (marksN ne (part.take k)))) ∧ Hid (Tch (fun x => x = wc.1.size) w5 wr)) (fun i _ => pn - (intOf i).toNat)
 case atStart => exact ⟨0, by omega, rfl, HI5, dh (Tch.refl _ _)⟩
 case round =>
  obtain ⟨k, hk, rfl, HIR, HTR⟩ := hrel
  have hzr5 := HTR.out.size
  have hbr : Below w0.1.size w0 wr := HB5.out.trans (HTR.out.below HB5.out.size (fun x hx e => by have e : x = wc.1.size := e; omega))
  by_cases hlt : k < pn
  ·have wk : IntKind.i64.wrap ((k : Int) + 1) = (k : Int) + 1 := by rw [wI]; omega
   have hk0 : (0 : Int) ≤ (k : Int) := by omega
   have hk1 : (k : Int) < (pn : Int) := by omega
   have hkP : k < part.length := by rw [HPQ.out]; exact hlt
   obtain ⟨b1, o1, rfl, hb1, hcl⟩ := (hp'.below hbr (by omega)).rd.at_ (nat_at hkP)
   obtain ⟨y, hy⟩ := xQ (part.getD k 0)
   have hye : part[k] = y := by rw [← hy, gD, gE hkP]; rfl
   have hyN : y < ne := HPL.out y (by rw [← hye]; exact mM hkP)
   have hy0 : (0 : Int) ≤ (y : Int) := by omega
   have hy1 : (y : Int) < (ne : Int) := by omega
   have HSN := dh (marksN_snoc (n := ne) hkP)
   rw [hye] at HSN
   have hgb := own_getB HIR.out hyN
   have hf0 := hgb.1
   have hf1 := hgb.2.1
   have hgl := hgb.2.2.1
   rw [hy] at hcl
   clear hy hye hgb
   go_wp2_with fail
   go_roundw
   case rel => exact ⟨k + 1, by omega, congrArg (Value.int .i64) (by omega), dh (by rw [HSN.out]; exact own_setB HIR.out), dh (HTR.out.setCell (p := ⟨wc.1.size, y, none⟩) (fun _ => rfl) _)⟩
   case measure => simp [intOf]; omega
  ·have hkn : k = pn := by omega
   have HIS : Hid (wr.ownsRow w0.1.size 4 1 (.slice (some ⟨wc.1.size, 0, none⟩) ne ne) ne (bcells (marksN ne part))) := dh (by have := HIR.out; rwa [tL (by rw [HPQ.out]; omega)] at this)
   have HT6 : Hid (TRel w0 g r 0 0 ne AA cA AB cB [] [] (innerK G.edges part 0) wr) := dh (by rw [innerK_zero, ← H2.out]; exact HT5.out.keep HTR.out HQ5.out hzc)
   clear hkn HIR HTR hzr5 hbr
   go_wp2_with fail
   go_loopw [34] (fun i wr' => ∃ a : Nat, a ≤ pn ∧ i = .int .i64 (a : Int) ∧ TRel w0 g r 0 0 ne AA cA AB cB [] [] (innerK G.edges part a) wr' ∧ Hid (wr'.ownsRow w0.1.size 4 1 (.slice (some ⟨wc.1.size, 0, none⟩) ne ne) ne (bcells (marksN ne part)))) (fun i _ => pn - (intOf i).toNat)
   case atStart => exact ⟨0, by omega, rfl, HT6.out, HIS⟩
   case round =>
    obtain ⟨a, ha, rfl, hT, HIS2⟩ := hrel
    obtain ⟨wp, rfl⟩ : ∃ wp : World, wp = wr := ⟨_, rfl⟩
    have hbel : Below w0.1.size w0 wp := hT.choose_spec.2.2.2.2
    have hzp := hbel.size
    have e0 := bC hbel hzl hx0
    have e1 := bC hbel hzl hx1
    have e2 := bC hbel hzl hx2
    by_cases hlt : a < pn
    ·have haP : a < part.length := by rw [HPQ.out]; exact hlt
     have wa : IntKind.i64.wrap ((a : Int) + 1) = (a : Int) + 1 := by rw [wI]; omega
     have ha0 : (0 : Int) ≤ (a : Int) := by omega
     have ha1 : (a : Int) < (pn : Int) := by omega
     obtain ⟨b1, o1, hAp, hb1, hcl⟩ := (hp'.below hbel (by omega)).rd.at_ (nat_at haP)
     obtain ⟨y, hy⟩ := xQ (part.getD a 0)
     have hye : part[a] = y := by rw [← hy, gD, gE haP]; rfl
     have hyN : y < ne := HPL.out y (by rw [← hye]; exact mM haP)
     have hal : y < G.edges.length := by rw [← H2.out]; exact hyN
     obtain ⟨b, o, A', n', c', hAe, hbb, hc00, hrow⟩ := h'.he.at_ (ed_take hal)
     have hc0 := bC hbel (by omega) hc00
     have hlen := hr G.edges[y] (mM hal)
     have hEnx := HEN.out G.edges[y] (mM hal)
     have hnx : n' = G.edges[y].length := by have := hrow.len; rw [ncells_len] at this; omega
     have hsucc := innerK_succ (E := G.edges) haP (by rw [hye]; exact hal)
     have hR0 : TRel w0 g r 0 0 ne AA cA AB cB [] [] ((innerK G.edges part a).set y ((G.edges[y].take 0).filter (endP part))) wp := by
      rw [List.take_zero, List.filter_nil]
      have h9 := innerK_at (E := G.edges) haP HPN.out
      rw [hye] at h9
      rw [← h9]; exact hT
     have hRl : (innerK G.edges part a).length = ne := by rw [innerK_len, ← H2.out]
     simp only [hye] at hsucc
     rw [hy] at hcl
     generalize G.edges[y] = x at *
     generalize innerK G.edges part a = R at *
     subst hnx
     subst hAp
     subst hAe
     have hy0 : (0 : Int) ≤ (y : Int) := by omega
     have hy1 : (y : Int) < (ne : Int) := by omega
     have HSU := dh hsucc
     have HRL := dh hRl
     have HEX := dh hEnx
     clear hsucc hRl hT hy hye hEnx
     go_wp2
     go_loopw [44] (fun i wr' => ∃ m : Nat, m ≤ x.length ∧ i = .int .i64 m ∧ TRel w0 g r 0 0 ne AA cA AB cB [] [] (R.set y ((x.take m).filter (endP part))) wr' ∧ Hid (wr'.ownsRow w0.1.size 4 1 (.slice (some ⟨wc.1.size, 0, none⟩) ne ne) ne (bcells (marksN ne part)))) (fun i _ => x.length - (intOf i).toNat)
     case atStart => exact ⟨0, by omega, rfl, hR0, HIS2⟩
     case round =>
      obtain ⟨m, hm, rfl, hT, HIS3⟩ := hrel
      clear hR0
      by_cases hltm : m < x.length
      ·have hbr : Below w0.1.size w0 wr := hT.choose_spec.2.2.2.2
       obtain ⟨bb, oo, rfl, hbbb, hd0, hd1⟩ := rd_nd (hrow.rd.below hbr (by omega)) hltm
       have hsn := filter_snocI (endP part) hltm
       have hbd : ((x.take m).filter (endP part)).length ≤ m := Nat.le_trans (List.length_filter_le _ _) (by rw [List.length_take]; omega)
       obtain ⟨t, ht, htN⟩ := isNd_nat (HEX.out x[m] (mM hltm))
       have hke : endP part x[m] = decide (t ∈ part) := by unfold endP; rw [ht, tN]
       generalize (x.take m).filter (endP part) = z at *
       generalize endP part x[m] = kk at *
       generalize x[m] = e at *
       obtain ⟨op, act⟩ := e
       dsimp only at *
       subst ht
       rw [← H2.out] at htN
       have hzr2 := hbr.size
       have hzw : w.1.size < wr.1.size := by omega
       have j0 : (0 : Int) ≤ (t : Int) := by omega
       have j1 : (t : Int) < (ne : Int) := by omega
       have hgw : g < wr.1.size := lt_of_block hT.choose_spec.1
       have hIS4 := HIS3.out.alloc (.cells #[.int .i64 (t : Int), .int .i64 act] 65)
       have hgb := own_getB hIS4 htN
       rw [marksN_at htN, ← hke] at hgb
       have hm0 := hgb.1
       have hm1 := hgb.2.1
       have hmq := hgb.2.2.1
       have HSN := dh hsn
       have hT1 := hT.below ((Below.refl wr.1.size wr).alloc lR (.cells #[.int .i64 (t : Int), .int .i64 act] 65))
       have HT1 := dh hT1
       have HTW := dh hT
       have HIS5 := dh hIS4
       clear hsn hke hT hT1 hgb hIS4
       cases kk
       ·go_wp2
        go_roundw
        case rel => exact ⟨m + 1, by omega, by go_num, by rw [HSN.out, if_neg (by decide), List.append_nil]; exact HT1.out, HIS5⟩
        case measure => simp [intOf]; omega
       ·have HKT : Hid (True) := dh trivial
        obtain ⟨w2, hw2⟩ := xQ (wr.alloc (.cells #[.int .i64 (t : Int), .int .i64 act] 65))
        have hbW : Below wr.1.size wr w2 := by rw [← hw2]; exact bR.alloc lR _
        have hz2 : w2.1.size = wr.1.size + 1 := by rw [← hw2]; simp
        have hx2' : w2.1[wr.1.size]? = some (.cells #[.int .i64 (t : Int), .int .i64 act] 65 (0, 0)) := by rw [← hw2]; exact heap_alloc_new wr _
        have HI2 : Hid (w2.ownsRow w0.1.size 4 1 (.slice (some ⟨wc.1.size, 0, none⟩) ne ne) ne (bcells (marksN ne part))) := dh (by rw [← hw2]; exact HIS5.out)
        rw [hw2] at hm0 hm1 hmq
        have hwr1 : wr.1.size < w2.1.size := by omega
        have q0 : w2.cell? ⟨wr.1.size, 0, none⟩ = some (.int .i64 (t : Int)) := cR hx2'
        have q1 : w2.cell? ⟨wr.1.size, 1, none⟩ = some (.int .i64 act) := cR hx2'
        go_upto_region 15 with fail
        have HZ2 := dh hz2
        clear hw2 hm0 hm1 hmq hd0 hd1 hz2
        obtain ⟨vs, s1, s2, s3, s4, s5⟩ := HTW.out
        have t1 := (hbW.block g (lt_of_block s1)).trans s1
        have t2 := s2.below hbW
        have t3 := own_below s3 hbW
        have t4 := own_below s4 hbW
        have t5 := s5.trans (hbW.mono s5.size)
        have hrlt := fun (j : Nat) (v : Value) (hv : vs[j]? = some v) => s2.rowlt hv
        clear s1 s2 s3 s4 s5
        obtain ⟨⟨c0, c1, c2⟩, _, hgl⟩ := blk3 t1
        have haR : y < R.length := by rw [HRL.out]; exact hyN
        obtain ⟨u, n0, hu, ho⟩ := t2.row y (ncells z) (by simp [haR])
        have hn0 : n0 = z.length := by have := ho.1; rw [ncells_len] at this; omega
        have hnb : n0 ≤ m := by omega
        obtain ⟨Au, cu, rfl, hsu⟩ := own_sl ho
        have d0 := t2.cell hu
        have d1 := t2.frozen y
        have hrl : r < w2.1.size := (t2.main.lt r rfl).2
        have hune : ∀ g', (Value.slice Au n0 cu).ownBlock = some g' → g' ≠ wr.1.size := fun g' hg' e => by have := (hrlt y _ hu g' hg').2; omega
        clear hrlt
        have HU := dh hu
        have HN0 := dh hn0
        have T1 := dh t1
        have hnw := heap_alloc_new w2 (.cells #[.int .i64 (t : Int), .int .i64 act] 65)
        clear hu hn0 t1
        refine wp_region_T (S := fun w' => w'.cell? ⟨g, 1, none⟩ = some (.slice (some ⟨r, 0, none⟩) ne ne) ∧ w'.cell? ⟨wr.1.size, 0, none⟩ = some (.int .i64 (t : Int)) ∧ w'.cell? ⟨wr.1.size, 1, none⟩ = some (.int .i64 act) ∧ w'.cell? ⟨r, y, none⟩ = some (.slice Au n0 cu)) 12 (by kernel_rfl) ⟨c1, q0, q1, d0⟩ (fun hS => ?_)
        refine tkT 0 ?_
        refine tkT 1 ?_
        refine tkT 2 ?_
        refine tkT 3 ?_
        refine tkT 4 ?_
        refine tkT 5 ?_
        refine tkT 6 ?_
        refine tkT 7 ?_
        refine tkT 8 ?_
        refine wpAnyT_oneD (i := 9) rfl (by kernel_rfl) (by decide) (fun K hK => ?_)
        go_simp
        refine hK.out _ _ (by go_keep) (fun hS => ?_)
        clear hK
        refine wpAnyT_oneD (i := 10) rfl (by kernel_rfl) (by decide) (fun K hK => ?_)
        refine step_push rfl (.tmp 60) (.tmp 62) 63 rfl w0.1.size 65 2 16 sliceEd _ _ _ (ho.alloc _) rfl w2.1.size #[.int .i64 (t : Int), .int .i64 act] rfl hnw rfl (by simp [Value.oneCell']) (by omega) (by omega) (by simp; omega) ?_
        intro u' w3 hown3 ht3 hat3 hne3
        obtain ⟨g', cap', rfl, _⟩ := own_form hown3 (by omega)
        obtain ⟨r1, r2, r3, r4, r5⟩ := TRel.grow (ys := z ++ [⟨(t : Int), act⟩]) T1.out t2 t3 t4 t5 rfl HU.out ho (by rw [ncells_append]; simpa [ncells] using hown3) (Tch.undrew ht3) hat3
        have r6 := (r4 _ (by omega) hune 0).trans q0
        have r7 := (r4 _ (by omega) hune 1).trans q1
        have hI7 := own_tch (HI2.out.alloc (.cells #[.int .i64 (t : Int), .int .i64 act] 65)) (Tch.undrew ht3) (fun g9 hg9 e9 => own_ne HI2.out ho (by decide) g9 hg9 e9)
        have hM7 : r ≠ wc.1.size := fun e9 => by
         have h9 := own_ne t2.main HI2.out (by decide) r (by simp [Value.ownBlock])
         exact h9 (by rw [e9]; simp [Value.ownBlock])
        have HI8 := dh (own_tch hI7 (tch_cell (w := w3) r y (.slice (some ⟨g', 0, none⟩) (n0 + 1) cap')) (fun g9 hg9 e9 => by simp [Value.ownBlock] at hg9; exact hM7 (by rw [hg9]; exact e9.symm)))
        refine hK.out _ _ ⟨r1, r6, r7, r2⟩ (fun hS => ?_)
        clear hK r4
        refine tkT 11 ?_
        refine wpAnyT_endD rfl (by kernel_rfl) (by kernel_rfl) (fun K hK => ?_)
        go_simp
        refine hK.out _ _ ?_
        clear hK
        go_wp2
        go_roundw
        case rel => exact ⟨m + 1, by omega, by go_num, by rw [HSN.out, if_pos rfl]; rw [List.set_set] at r5; exact r5, HI8⟩
        case measure => simp [intOf]; omega
      ·have hml : m = x.length := by omega
       have hT1 := hT
       rw [tL (by omega), ← HSU.out] at hT1
       have HT1 := dh hT1
       clear hT hT1 hml
       go_wp2
       go_roundw
       case rel => exact ⟨a + 1, by omega, by go_num, HT1.out, HIS3⟩
       case measure => simp [intOf]; omega
    ·have hae : a = pn := by omega
     have hfin : innerK G.edges part a = innerE G.edges part := by rw [hae, ← HPQ.out, innerK_full]
     rw [hfin] at hT
     have HTF := dh hT
     obtain ⟨vs, s1, s2, s3, s4, s5⟩ := hT
     obtain ⟨⟨c0, c1, c2⟩, _, hgl⟩ := blk3 s1
     obtain ⟨⟨r0, r1, r2⟩, ⟨p0, p1, p2⟩, hrl⟩ := blk3 ((hbel.block _ hzr).trans HR0.out)
     have HF := dh (blk3 (heap_set3 (x := .slice AA 0 cA) (y := .slice (some ⟨r, 0, none⟩) ne ne) (z := .slice AB 0 cB) ((hbel.block _ hzr).trans HR0.out))).1
     have HAE := dh hae
     have hgr : w.1.size + 1 < g := by omega
     clear s1 s2 s3 s4 hfin hae e0 e1 e2
     go_wp2_with fail
     refine bodyPost_ret (v := .agg #[.slice AA 0 cA, .slice (some ⟨r, 0, none⟩) ne ne, .slice AB 0 cB]) ?_ rfl ?_
     ·obtain ⟨f0, f1, f2⟩ := HF.out
      simp [results, Tryd.results102, go_sem, f0, f1, f2]
     ·refine ⟨_, _, _, _, _, _, _, _, _, rfl, ?_, ?_, ?_⟩
      ·have := TRel.done (G := ⟨[], innerE G.edges part, []⟩) (q := w.1.size + 1) (x := .slice AA 0 cA) (y := .slice (some ⟨r, 0, none⟩) ne ne) (z := .slice AB 0 cB) HTF.out hzr
       refine this.up ?_
       simp [World.setCell]
      ·exact below_set3 (by omega) (hb0.trans (hbel.mono (by omega)))
      ·obtain ⟨vs, ho⟩ := TRel.doneO (q := w.1.size + 1) (x := .slice AA 0 cA) (y := .slice (some ⟨r, 0, none⟩) ne ne) (z := .slice AB 0 cB) HTF.out hzr
       exact ⟨vs, ho.rebase (by omega)⟩
end
end Go.Proofs.YtiebpncpdbnelaaDoor
