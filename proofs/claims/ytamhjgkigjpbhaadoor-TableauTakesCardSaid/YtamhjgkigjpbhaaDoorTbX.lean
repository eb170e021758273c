/- The walk of tableau.Of (layer 29). -/
import Derived.Test.YtamhjgkigjpbhaaDoorZba
import Derived.Test.YtamhjgkigjpbhaaDoorZas
import Derived.Test.YtamhjgkigjpbhaaDoorZal
namespace Go.Proofs.YtamhjgkigjpbhaaDoor
open Go.RowKit Go.Maps

theorem sl_blkT {w : World} {b T n size : Nat} {cs : Array Value} {xs : List Value} {B : Nat} (h : w.heap[b]? = some (.cells cs T (0, 0))) (hx : cs.toList = xs) (hn : xs.length = n * size) (hm : n ≤ maxLen) (hb : b < B) : Sl w B size (some ⟨b, 0, none⟩) n n xs := by
  refine ⟨hn, Nat.le_refl _, hm, fun h => (by cases h), .inr ⟨b, 0, rfl, hb, fun j u hu => ?_⟩⟩
  rw [Nat.zero_add, cell_of_row w b j _ _ _ h]
  rw [← hx] at hu
  simpa using hu
theorem box3T {w : World} {b t : Nat} {p q r : Value} (h : w.heap[b]? = some (.cells #[p, q, r] t (0, 0))) : w.cell? ⟨b, 0, none⟩ = some p ∧ w.cell? ⟨b, 1, none⟩ = some q ∧ w.cell? ⟨b, 2, none⟩ = some r := by
  refine ⟨?_, ?_, ?_⟩ <;> (rw [cell_of_row _ _ _ _ _ (0, 0) h]; rfl)
theorem set3T {w : World} {g T : Nat} {a b c : Value} {cs : Array Value} (h : w.heap[g]? = some (.cells cs T (0, 0))) (hc : cs.size = 3) :
    (((w.setCell ⟨g, 0, none⟩ a).setCell ⟨g, 1, none⟩ b).setCell ⟨g, 2, none⟩ c).heap[g]? = some (.cells #[a, b, c] T (0, 0)) := by
  have h1 := heap_setCell_same w g 0 _ _ a h
  have h2 := heap_setCell_same _ g 1 _ _ b h1
  have h3 := heap_setCell_same _ g 2 _ _ c h2
  rw [h3]
  clear h1 h2 h3 h
  obtain ⟨l⟩ := cs
  match l, hc with
  | [p, q, r], _ => simp
theorem bel3T {w w0 : World} {B g : Nat} (h : Below B w w0) (hg : B ≤ g) (a b c : Value) : Below B w (((w0.setCell ⟨g, 0, none⟩ a).setCell ⟨g, 1, none⟩ b).setCell ⟨g, 2, none⟩ c) :=
  ((h.setCell (p := ⟨g, 0, none⟩) hg _).setCell (p := ⟨g, 1, none⟩) hg _).setCell (p := ⟨g, 2, none⟩) hg _
/-- What the loop of Of keeps. -/
structure OL (n0 kb nb ob : Nat) (Af : Option Addr) (cf : Nat) (f : List Nd) (sets : Int) (w4 : World) (A1 : Option Addr) (c1 : Nat) (L : List Cov) (rows : List (List Nat)) (vn : Value) (wr : World) : Prop where
  len : L.length ≤ 256
  ts : TS n0 wr.heap.size kb nb ob Af cf f sets wr L rows.length rows (.slice A1 (firstL f).length c1) vn
  ini : TSl wr 3 A1 (List.range (firstL f).length).length c1 (icells (natI (List.range (firstL f).length)))
  bel : Below n0 w4 wr
  inv : TabInv f L rows
  it : tabIt f (257 - rows.length) L rows = tabIt f 257 (firstL f) []
set_option maxHeartbeats 4000000 in
set_option maxRecDepth 100000 in
theorem tabOf_any (A : Option Addr) (c : Nat) (f : List Nd) (w : World) (hf : Sl w w.heap.size 2 A f.length c (ncells f)) (hT : TzTab w) (hl : f.length ≤ 1000) (hq : isN f = true → f.length ≤ 50 → (untils f).length ≤ 16 → f.length ≤ 13) :
    Calls Tryd.prog 9 #[.slice A f.length c] w (AutPost w (ofA f) (ofE f)) := by
  have hb0 : Below w.heap.size w (w.alloc (.cells #[.int .i64 0, .slice none 0 0, .slice none 0 0] 28)) := (Below.refl _ _).alloc (Nat.le_refl _) _
  have hx0 := heap_alloc_new w (.cells #[.int .i64 0, .slice none 0 0, .slice none 0 0] 28)
  have hz0 : (w.alloc (.cells #[.int .i64 0, .slice none 0 0, .slice none 0 0] 28)).heap.size = w.heap.size + 1 := by simp
  obtain ⟨W0, hW0⟩ : ∃ W0, w.alloc (.cells #[.int .i64 0, .slice none 0 0, .slice none 0 0] 28) = W0 := ⟨_, rfl⟩
  rw [hW0] at hb0 hx0 hz0
  have HW0 := Lib.hid hW0
  have HU := Lib.hid (Untils_any A c f W0 w.heap.size (hf.below hb0 (Nat.le_refl _)) (by omega) (by omega))
  have HF := Lib.hid hf
  have HT := Lib.hid hT
  have HQ := Lib.hid hq
  clear hW0 hf hT hq
  go_enter Tryd.func9, Tryd.ntmps9
  go_wp2_with fail
  rw [HW0.out]
  refine Calls.mono HU.out ?_
  rintro e w1 ⟨v1, rfl, ho1, hb1, -⟩
  obtain ⟨Au, cu, rfl, hsu⟩ := own_sl ho1
  have hb01 : Below w.heap.size w w1 := hb0.trans (hb1.mono (by omega))
  have HI := Lib.hid (Is_any A c f w1 w.heap.size (HF.out.below hb01 (Nat.le_refl _)) hb01.size (by omega))
  have hx1 := (hb1.block w.heap.size (by omega)).trans hx0
  clear ho1 hsu hb0 hx0
  go_wp2_with fail
  refine Calls.mono HI.out ?_
  rintro e w2 ⟨rfl, hb2⟩
  have hb02 : Below w.heap.size w w2 := hb01.trans (hb2.mono hb01.size)
  have hz1 := hb01.size
  have hz1' := hb1.size
  have hx2 := (hb2.block w.heap.size (by omega)).trans hx1
  obtain ⟨k0, k1, k2⟩ := box3T hx2
  have kf0 := frozen_of_row _ _ 0 _ _ hx2
  have kf1 := frozen_of_row _ _ 1 _ _ hx2
  have kf2 := frozen_of_row _ _ 2 _ _ hx2
  have HE : ∀ e : Int, ofE f = e → e ≠ 0 → AutPost w (ofA f) (ofE f) (.returned (.tuple #[.agg #[.int .i64 0, .slice none 0 0, .slice none 0 0], .int .i64 e])) (((w2.setCell ⟨w.heap.size, 0, none⟩ (.int .i64 0)).setCell ⟨w.heap.size, 1, none⟩ (.slice none 0 0)).setCell ⟨w.heap.size, 2, none⟩ (.slice none 0 0)) := fun e he h0 => by
    have ha : ofA f = ⟨0, [], []⟩ := by unfold ofA; rw [he, if_neg h0]
    rw [ha, he]
    exact ⟨none, 0, 0, none, 0, 0, rfl, autRd_nil _ _, bel3T hb02 (Nat.le_refl _) _ _ _⟩
  have hset := set3T (a := .int .i64 0) (b := .slice none 0 0) (c := .slice none 0 0) hx2 rfl
  obtain ⟨g0, g1, g2⟩ := box3T hset
  have HEh := Lib.hid HE
  clear HE
  cases hN : isN f
  · have HN := Lib.hid hN
    clear hN
    go_wp2_with fail
    refine bodyPost_ret (v := .tuple #[.agg #[.int .i64 0, .slice none 0 0, .slice none 0 0], .int .i64 3]) ?_ rfl (HEh.out 3 ?_ (by decide))
    · simp [results, Tryd.results9, go_sem, g0, g1, g2]
    · unfold ofE; rw [if_pos HN.out]
  · have HN := Lib.hid hN
    clear hN
    by_cases h50 : 50 < f.length
    · have h50' : (50 : Int) < (f.length : Int) := by omega
      go_wp2_with fail
      refine bodyPost_ret (v := .tuple #[.agg #[.int .i64 0, .slice none 0 0, .slice none 0 0], .int .i64 5]) ?_ rfl (HEh.out 5 ?_ (by decide))
      · simp [results, Tryd.results9, go_sem, g0, g1, g2]
      · unfold ofE; rw [if_neg (by rw [HN.out]; decide), if_pos h50]
    · have h50' : ¬ (50 : Int) < (f.length : Int) := by omega
      by_cases h16 : 16 < (untils f).length
      · have h16' : (16 : Int) < ((untils f).length : Int) := by omega
        go_wp2_with fail
        refine bodyPost_ret (v := .tuple #[.agg #[.int .i64 0, .slice none 0 0, .slice none 0 0], .int .i64 11]) ?_ rfl (HEh.out 11 ?_ (by decide))
        · simp [results, Tryd.results9, go_sem, g0, g1, g2]
        · unfold ofE; rw [if_neg (by rw [HN.out]; decide), if_neg h50, if_pos h16]
      · have h16' : ¬ (16 : Int) < ((untils f).length : Int) := by omega
        have h13 := HQ.out HN.out (by omega) (by omega)
        have hmk1 := run_makeMap (P := Tryd.prog) 51
        have hmk2 := run_makeMap (P := Tryd.prog) 52
        have hpos := isN_pos HN.out
        have hz2 := hb2.size
        obtain ⟨W4, hW4, hb4, y0, y1, y2, y3, yz⟩ := al4 w2 (.map #[] 0) (.map #[] 0) (.cells #[.slice A f.length c, .map (some w2.heap.size), .map (some (w2.heap.size + 1)), .int .i64 ((untils f).length : Nat), .slice none 0 0, .slice none 0 0] 54) (.cells #[.int .i64 ((f.length : Int) - 1)] 3)
        have HW4 := Lib.hid hW4
        have hb04 : Below w.heap.size w W4 := hb02.trans (hb4.mono hb02.size)
        have hx4 := (hb4.block w.heap.size (by omega)).trans hx2
        have hTS4 : TS (w.heap.size + 1) W4.heap.size (w2.heap.size + 1 + 1) w2.heap.size (w2.heap.size + 1) A c f ((untils f).length : Nat) W4 [] 0 [] (.slice none 0 0) (.slice none 0 0) :=
          TS.start y2 y0 y1 ⟨by omega, by omega, by omega, by omega, by omega⟩ ((HF.out.below hb04 (Nat.le_refl _)).up (by omega))
        have hnd := (firstL_inv HN.out hpos).nodup
        have hps1 : ([(f.length : Int) - 1]).map Int.toNat = [f.length - 1] := by simp
        have HA1 := Lib.hid (all_any (w.heap.size + 1) W4.heap.size (w2.heap.size + 1 + 1) w2.heap.size (w2.heap.size + 1) A c f ((untils f).length : Nat) W4 [] 0 [] (.slice none 0 0) (.slice none 0 0) (some ⟨w2.heap.size + 1 + 1 + 1, 0, none⟩) 1 1 [(f.length : Int) - 1] hTS4 (Nat.le_refl _)
          (sl_blkT y3 rfl (by simp [icells]) (by decide) (by omega)) rfl HN.out (fun x hx => by simp at hx; omega) h13 (by simp) (by omega) (tz_below HT.out hb04) (by have := tz_lt HT.out; omega))
        rw [hps1] at HA1
        have HX4 := Lib.hid hx4
        have HB04 := Lib.hid hb04
        have HND := Lib.hid hnd
        clear k0 k1 k2 hset g0 g1 g2 kf0 kf1 kf2 hx1 hx2 y0 y1 y2 y3 hb4 hps1 hW4 hx4 hb04 HEh hnd
        go_wp2_with fail
        rw [← HW4.out]
        refine Calls.mono HA1.out ?_
        rintro e w5 ⟨hA, hB⟩
        have hfl : coversL f [f.length - 1] = firstL f := rfl
        rw [hfl, once_nil HND.out] at hA hB
        by_cases hov : (firstL f).length ≤ 256
        · obtain ⟨A1, c1, vn1, rfl, hts5, htl5, ht5, -⟩ := hA hov
          rw [row_self HND.out, List.length_range] at htl5
          rw [row_self HND.out, List.length_range]
          clear hA hB
          have hS5 := hts5.setInit (.slice A1 (firstL f).length c1)
          obtain ⟨q0, q1, q2, q3, q4, q5⟩ := box6 hts5.bk
          have qf := frozen_of_row _ _ 4 _ _ hts5.bk
          obtain ⟨W6, hW6⟩ : ∃ W6, w5.setCell ⟨w2.heap.size + 1 + 1, 4, none⟩ (.slice A1 (firstL f).length c1) = W6 := ⟨_, rfl⟩
          rw [hW6] at hS5
          have HS5 := Lib.hid hS5
          have HW6 := Lib.hid hW6
          have HTL5 := Lib.hid htl5
          have HT5 := Lib.hid ht5
          have HTS5 := Lib.hid hts5
          clear hS5 hW6 htl5 ht5 hts5
          go_wp2_with fail
          rw [HW6.out]
          have hk5 := HTS5.out.bk
          have hz6 := HS5.out.2.size
          have hlt5 := HTS5.out.lt
          have b46 : Below (w.heap.size + 1) W4 W6 := (HT5.out.below (by omega) (fun k hk e => by have := hTS4.tk_ge e; omega)).trans (HS5.out.2.below (by omega) (fun k hk e => by omega))
          have hOL0 : OL (w.heap.size + 1) (w2.heap.size + 1 + 1) w2.heap.size (w2.heap.size + 1) A c f ((untils f).length : Nat) W4 A1 c1 (firstL f) [] vn1 W6 := by
            refine ⟨hov, HS5.out.1.up hz6, ?_, b46, firstL_inv HN.out hpos, rfl⟩
            rw [List.length_range]
            exact HTL5.out.keep HS5.out.2 (spares_one hk5 (by decide))
          clear hk5 hz6 hlt5 b46 q0 q1 q2 q3 q4 q5 qf hTS4
          go_loopw [8] (fun v wr => ∃ (L : List Cov) (rows : List (List Nat)) (vn : Value), v = .int .i64 (rows.length : Nat) ∧ Hid (OL (w.heap.size + 1) (w2.heap.size + 1 + 1) w2.heap.size (w2.heap.size + 1) A c f ((untils f).length : Nat) W4 A1 c1 L rows vn wr)) (fun v _ => 257 - (intOf v).toNat)
          case atStart => exact ⟨firstL f, [], vn1, rfl, Lib.hid hOL0⟩
          case round =>
            obtain ⟨L, rows, vn, rfl, HOL⟩ := hrel
            clear hOL0
            have hrl := HOL.out.inv.le
            have hLl := HOL.out.len
            obtain ⟨q0, q1, q2, q3, q4, q5⟩ := box6 HOL.out.ts.bk
            obtain ⟨xs0, hxs0, hnds0⟩ := HOL.out.ts.nds
            obtain ⟨An, cn, rfl, hsn⟩ := own_sl hxs0
            clear hsn hxs0 hnds0
            have hx := (HOL.out.bel.block w.heap.size (by omega)).trans HX4.out
            by_cases hlt : rows.length < L.length
            · have hlt' : (rows.length : Int) < (L.length : Int) := by omega
              have hcL : L[rows.length]? = some L[rows.length] := List.getElem?_eq_getElem hlt
              obtain ⟨g, hg, hg2⟩ := HOL.out.ts.opn
              obtain ⟨E1, e1, E2, e2, hgc, hrd⟩ := hg2 rows.length _ (Nat.le_refl _) hcL
              have hmem : L[rows.length] ∈ L := List.getElem_mem hlt
              obtain ⟨x, hxe⟩ : ∃ x, L[rows.length] = x := ⟨_, rfl⟩
              rw [hxe] at hcL hgc hrd hmem
              have hok := HOL.out.ts.oks x hmem
              have hlk := hg.look false intKeyed Tryd.underlying52 (by kernel_rfl) (keyNat (q := rows.length) (by omega)) (z := .agg #[.int .u64 0, .int .u64 0, .slice none 0 0, .slice none 0 0])
              rw [hgc] at hlk
              simp only [Option.getD_some, Bool.false_eq_true, if_false] at hlk
              unfold covV at hlk
              have hb7 : Below wr.heap.size wr (wr.alloc (.cells #[.int .u64 (x.1 : Int), .int .u64 (x.2.1 : Int), .slice E1 (onL x.2.2.1).length e1, .slice E2 (onL x.2.2.2).length e2] 57)) := (Below.refl _ _).alloc (Nat.le_refl _) _
              have hx7 := heap_alloc_new wr (.cells #[.int .u64 (x.1 : Int), .int .u64 (x.2.1 : Int), .slice E1 (onL x.2.2.1).length e1, .slice E2 (onL x.2.2.2).length e2] 57)
              have hz7 : (wr.alloc (.cells #[.int .u64 (x.1 : Int), .int .u64 (x.2.1 : Int), .slice E1 (onL x.2.2.1).length e1, .slice E2 (onL x.2.2.2).length e2] 57)).heap.size = wr.heap.size + 1 := by simp
              obtain ⟨W7, hW7⟩ : ∃ W7, wr.alloc (.cells #[.int .u64 (x.1 : Int), .int .u64 (x.2.1 : Int), .slice E1 (onL x.2.2.1).length e1, .slice E2 (onL x.2.2.2).length e2] 57) = W7 := ⟨_, rfl⟩
              rw [hW7] at hb7 hx7 hz7
              have HW7 := Lib.hid hW7
              have hts7 := HOL.out.ts.below hb7
              have m2 := (hb7.cell (p := ⟨w2.heap.size + 1 + 1, 2, none⟩) (heap_lt HOL.out.ts.bk)).trans q2
              have hg7 : GMap W7 3 (w2.heap.size + 1) L.length g := hg.blk (hb7.block _ hg.lt)
              obtain ⟨W8, hdel, hdm, hgr8⟩ := hg7.delete (ty := 0) intKeyed Tryd.underlying52 (keyNat (q := rows.length) (by omega))
              have m2' : (wr.alloc (.cells #[.int .u64 (x.1 : Int), .int .u64 (x.2.1 : Int), .slice E1 (onL x.2.2.1).length e1, .slice E2 (onL x.2.2.2).length e2] 57)).cell? ⟨w2.heap.size + 1 + 1, 2, none⟩ = some (.map (some (w2.heap.size + 1))) := by rw [HW7.out]; exact m2
              have hdel' : (Builtin.delete_ #[52, 3] 0 #[.map (some (w2.heap.size + 1)), .int .i64 (rows.length : Nat)]).run Tryd.prog (wr.alloc (.cells #[.int .u64 (x.1 : Int), .int .u64 (x.2.1 : Int), .slice E1 (onL x.2.2.1).length e1, .slice E2 (onL x.2.2.2).length e2] 57)) = .ok (.tuple #[]) W8 := by rw [HW7.out]; exact hdel
              have t8 : Tch (fun k => k = w2.heap.size + 1) W7 W8 := (Tch.of_grown hgr8).mono (fun i _ e => by injection e with e; exact e.symm)
              have hob7 := hts7.ob_cells (k := wr.heap.size) hx7
              have hx8 := t8.blk hx7 hob7
              have n2 : W8.cell? ⟨wr.heap.size, 2, none⟩ = some (.slice E1 (onL x.2.2.1).length e1) := (box4' hx8).2.2.1
              have sp8 : SpB (fun k => k = w2.heap.size + 1) W7 wr.heap.size := fun k cs _ hk e => hts7.ob_cells hk e
              have hopn8 : OpnOk wr.heap.size W8 (w2.heap.size + 1) (rows.length + 1) L := opn_del (fun q d hq hd => by
                obtain ⟨F1, f1, F2, f2, a, b⟩ := hg2 q d hq hd
                exact ⟨F1, f1, F2, f2, a, (b.keep (Tch.of_below hb7) (SpB.of (spares_new wr _))).keep t8 sp8⟩) hdm
              have hts8 := hts7.pop t8 hopn8
              have hrd8 := (hrd.keep (Tch.of_below hb7) (SpB.of (spares_new wr _))).keep t8 sp8
              have hn08 : w.heap.size + 1 ≤ wr.heap.size := HOL.out.ts.lt.1
              have b08 : Below (w.heap.size + 1) W4 W8 := (HOL.out.bel.trans (hb7.mono hn08)).trans (t8.below (by omega) (fun k hk e => by have := HOL.out.ts.lt; omega))
              have hgl := tz_lt HT.out
              have tz8 : TzTab W8 := tz_tch (tz_below HT.out HB04.out) (Tch.of_below b08) (fun e => by omega)
              have hlt1 : ∀ z ∈ onL x.2.2.1, z < f.length := onL_lt hok.l1
              have hle1 : (onL x.2.2.1).length ≤ 1000 := Nat.le_trans (onL_len _) (by rw [hok.l1]; omega)
              have HAL := Lib.hid (all_any (w.heap.size + 1) wr.heap.size (w2.heap.size + 1 + 1) w2.heap.size (w2.heap.size + 1) A c f ((untils f).length : Nat) W8 L (rows.length + 1) rows (.slice A1 (firstL f).length c1) (.slice An L.length cn) E1 (onL x.2.2.1).length e1 (natI (onL x.2.2.1)) hts8 (by have := t8.size; omega) hrd8.1.t.sl (by simp [natI]) HN.out
                (fun z hz => by obtain ⟨m, hm, rfl⟩ := List.mem_map.1 hz; have := hlt1 m hm; omega) h13 hLl hle1 tz8 (by omega))
              rw [natI_back] at HAL
              have HT8 := Lib.hid t8
              have HTS8 := Lib.hid hts8
              have HTS7 := Lib.hid hts7
              have HB7 := Lib.hid hb7
              have HCL := Lib.hid hcL
              have HX8 := Lib.hid (b08.block _ (show w.heap.size < w.heap.size + 1 by omega))
              have HB08 := Lib.hid b08
              have hhx : w.heap.size < w.heap.size + 1 := by omega
              clear hxe hgc hmem hW7 hdel m2 t8 hob7 sp8 hopn8 hts8 hts7 hrd8 b08 tz8 hlt1 hrd hg hg2 hg7 hdm hgr8 hx7 hb7 hcL hok hx8
              go_wp2_with fail
              refine Calls.mono HAL.out ?_
              rintro e W9 ⟨hA, hB⟩
              obtain ⟨T, hTe⟩ : ∃ T, coversL f (onL x.2.2.1) = T := ⟨_, rfl⟩
              rw [hTe] at hA hB
              have HTE := Lib.hid hTe
              clear hTe
              by_cases hov2 : (onceC T L).length ≤ 256
              · obtain ⟨A9, c9, vn9, rfl, hts9, htl9, ht9, hv9⟩ := hA hov2
                clear hA hB
                obtain ⟨xs9, hxs9, hnd9⟩ := hts9.nds
                have hLL : L.length ≤ (onceC T L).length := by obtain ⟨m, hm⟩ := onceC_pre T L; rw [hm, List.length_append]; omega
                obtain ⟨gn, cn9, rfl, hgn, hgn2, -, -⟩ := own_form hxs9 (by omega)
                obtain ⟨r0, r1, r2, r3, r4, r5⟩ := box6 hts9.bk
                have hcL9 : (onceC T L)[rows.length]? = some x := by
                  obtain ⟨m, hm⟩ := onceC_pre T L
                  rw [hm, List.getElem?_append_left hlt]; exact HCL.out
                obtain ⟨Ao, co, -, -, -, e9, -⟩ := hnd9 rows.length x hcL9
                have hk9 := (hxs9.cellAt (rows.length * 4 + 3) (by omega)).trans e9
                have kf9 := hxs9.frozenAt (rows.length * 4 + 3)
                have hlt9 : (rows.length : Int) < ((onceC T L).length : Int) := by omega
                have hS10 := hts9.setTo (by omega) (rowL (onceC T L) T) (TSb.of htl9)
                obtain ⟨cs9, hcs9⟩ := own_cells hxs9 (g := gn) (by simp [Value.ownBlock])
                have hini : TSl W9 3 A1 (List.range (firstL f).length).length c1 (icells (natI (List.range (firstL f).length))) := ((HOL.out.ini.below HB7.out).keep HT8.out (fun k cs hk e => HTS7.out.ob_cells hk e)).keep ht9 (HTS8.out.spares (by decide) (by decide))
                obtain ⟨W10, hW10⟩ : ∃ W10, W9.setCell ⟨gn, rows.length * 4 + 3, none⟩ (.slice A9 (rowL (onceC T L) T).length c9) = W10 := ⟨_, rfl⟩
                rw [hW10] at hS10
                have HW10 := Lib.hid hW10
                have hini10 := hini.keep hS10.2 (spares_one hcs9 (by decide))
                have b9 : Below (w.heap.size + 1) W4 W9 := HB08.out.trans (ht9.below (by have := HB08.out.size; have := HTS8.out.lt.1; omega) (fun k hk e => by have := HTS8.out.tk_ge e; omega))
                have b10 : Below (w.heap.size + 1) W4 W10 := b9.trans (hS10.2.below (by have := hts9.lt.1; omega) (fun k hk e => by omega))
                have hinv := HOL.out.inv.step' HN.out hlt HCL.out
                rw [HTE.out] at hinv
                have hit : tabIt f (257 - (rows ++ [rowL (onceC T L) T]).length) (onceC T L) (rows ++ [rowL (onceC T L) T]) = tabIt f 257 (firstL f) [] := by
                  rw [← HOL.out.it, show 257 - rows.length = (256 - rows.length) + 1 by omega, tabIt_step hlt HCL.out, HTE.out, if_neg (by omega)]
                  rw [List.length_append, List.length_singleton, show 257 - (rows.length + 1) = 256 - rows.length by omega]
                have HNEW := Lib.hid (show OL (w.heap.size + 1) (w2.heap.size + 1 + 1) w2.heap.size (w2.heap.size + 1) A c f ((untils f).length : Nat) W4 A1 c1 (onceC T L) (rows ++ [rowL (onceC T L) T]) (.slice (some ⟨gn, 0, none⟩) (onceC T L).length cn9) W10 from
                  ⟨hov2, by rw [List.length_append, List.length_singleton]; exact hS10.1.up hS10.2.size, hini10, b10, hinv, hit⟩)
                have wi : IntKind.i64.wrap ((rows.length : Int) + 1) = rows.length + 1 := by rw [IntKind.wrap_i64]; omega
                clear hts9 htl9 ht9 hv9 hxs9 hnd9 e9 hS10 hini hini10 hcs9 b9 b10 hinv hit hW10 hcL9
                go_wp2_with fail
                rw [HW10.out]
                go_roundw
                case rel => exact ⟨_, _, _, by rw [List.length_append, List.length_singleton]; go_num, HNEW⟩
                case measure => simp [intOf]; omega
              · obtain ⟨rfl, hb9⟩ := hB (by omega)
                clear hA hB
                have hx9 := (hb9.block w.heap.size (by omega)).trans (HX8.out.trans HX4.out)
                have hset := set3T (a := .int .i64 0) (b := .slice none 0 0) (c := .slice none 0 0) hx9 rfl
                obtain ⟨g0, g1, g2⟩ := box3T hset
                obtain ⟨k0, k1, k2⟩ := box3T hx9
                have kf0 := frozen_of_row _ _ 0 _ _ hx9
                have kf1 := frozen_of_row _ _ 1 _ _ hx9
                have kf2 := frozen_of_row _ _ 2 _ _ hx9
                have hoe : ofE f = 11 := by
                  unfold ofE tabL
                  rw [if_neg (by rw [HN.out]; decide), if_neg h50, if_neg h16, if_neg (by omega), ← HOL.out.it, show 257 - rows.length = (256 - rows.length) + 1 by omega, tabIt_step hlt HCL.out, HTE.out, if_pos (by omega)]
                have hoa : ofA f = ⟨0, [], []⟩ := by unfold ofA; rw [hoe, if_neg (by decide)]
                have hbf : Below w.heap.size w W9 := (HB04.out.trans (HB08.out.mono (by omega))).trans (hb9.mono (by omega))
                have HOA := Lib.hid hoa
                have HOE := Lib.hid hoe
                clear hset hoe hoa hx9 hx
                go_wp2_with fail
                refine bodyPost_ret (v := .tuple #[.agg #[.int .i64 0, .slice none 0 0, .slice none 0 0], .int .i64 11]) ?_ rfl ?_
                · simp [results, Tryd.results9, go_sem, g0, g1, g2]
                · rw [HOA.out, HOE.out]
                  exact ⟨none, 0, 0, none, 0, 0, rfl, autRd_nil _ _, bel3T hbf (Nat.le_refl _) _ _ _⟩
            · have hlt' : ¬ (rows.length : Int) < (L.length : Int) := by omega
              have hrL : rows.length = L.length := by omega
              obtain ⟨k0, k1, k2⟩ := box3T hx
              have kf0 := frozen_of_row _ _ 0 _ _ hx
              have kf1 := frozen_of_row _ _ 1 _ _ hx
              have kf2 := frozen_of_row _ _ 2 _ _ hx
              have htab : tabL f = some (L, rows) := by
                unfold tabL
                rw [if_neg (by omega), ← HOL.out.it, show 257 - rows.length = (256 - rows.length) + 1 by omega]
                exact tabIt_end (by omega)
              have hoe : ofE f = 0 := by
                unfold ofE
                rw [if_neg (by rw [HN.out]; decide), if_neg h50, if_neg h16, htab]
              have hoa : ofA f = tabA f L rows (List.range (firstL f).length) := by unfold ofA; rw [hoe, if_pos rfl, htab]
              have hset := set3T (a := .int .i64 ((untils f).length : Nat)) (b := .slice A1 (firstL f).length c1) (c := .slice An L.length cn) hx rfl
              obtain ⟨g0, g1, g2⟩ := box3T hset
              obtain ⟨V, hV⟩ : ∃ V, ((wr.setCell ⟨w.heap.size, 0, none⟩ (.int .i64 ((untils f).length : Nat))).setCell ⟨w.heap.size, 1, none⟩ (.slice A1 (firstL f).length c1)).setCell ⟨w.heap.size, 2, none⟩ (.slice An L.length cn) = V := ⟨_, rfl⟩
              have htV : Tch (fun k => k = w.heap.size) wr V := by
                rw [← hV]
                exact (((Tch.refl (fun k => k = w.heap.size) wr).setCell (p := ⟨w.heap.size, 0, none⟩) (fun _ => rfl) _).setCell (p := ⟨w.heap.size, 1, none⟩) (fun _ => rfl) _).setCell (p := ⟨w.heap.size, 2, none⟩) (fun _ => rfl) _
              obtain ⟨An', cn', hAn, haut⟩ := HOL.out.ts.autK hrL (List.range (firstL f).length) HOL.out.ini htV (fun gg hgg e => by obtain ⟨xs, ho, _⟩ := HOL.out.ts.nds; have := (ho.lt gg hgg).1; omega) (spares_one hx (by decide))
              cases hAn
              rw [List.length_range] at haut
              have hbV : Below w.heap.size w V := (HB04.out.trans (HOL.out.bel.mono (by omega))).trans (htV.below (by have := HOL.out.bel.size; have := HB04.out.size; omega) (fun k hk e => by omega))
              rw [hV] at g0 g1 g2
              have HV := Lib.hid hV
              have HOA := Lib.hid hoa
              have HOE := Lib.hid hoe
              have HAUT := Lib.hid haut
              clear hset hV hoa hoe haut htab hx
              go_wp2_with fail
              rw [HV.out]
              refine bodyPost_ret (v := .tuple #[.agg #[.int .i64 ((untils f).length : Nat), .slice A1 (firstL f).length c1, .slice An L.length cn], .int .i64 0]) ?_ rfl ?_
              · simp [results, Tryd.results9, go_sem, g0, g1, g2]
              · rw [HOA.out, HOE.out]
                refine ⟨A1, _, c1, An, _, cn, ?_, HAUT.out, hbV⟩
                have hu : untils f = utl 0 f := by unfold untils; rw [if_pos (isN_good HN.out)]
                rw [hu]; rfl
        · obtain ⟨rfl, hb5⟩ := hB (by omega)
          clear hA hB
          have hx5 := (hb5.block w.heap.size (by omega)).trans HX4.out
          have hset := set3T (a := .int .i64 0) (b := .slice none 0 0) (c := .slice none 0 0) hx5 rfl
          obtain ⟨g0, g1, g2⟩ := box3T hset
          obtain ⟨k0, k1, k2⟩ := box3T hx5
          have kf0 := frozen_of_row _ _ 0 _ _ hx5
          have kf1 := frozen_of_row _ _ 1 _ _ hx5
          have kf2 := frozen_of_row _ _ 2 _ _ hx5
          have hoe : ofE f = 11 := by
            unfold ofE tabL
            rw [if_neg (by rw [HN.out]; decide), if_neg h50, if_neg h16, if_pos (by omega)]
          have hoa : ofA f = ⟨0, [], []⟩ := by unfold ofA; rw [hoe, if_neg (by decide)]
          have HOA := Lib.hid hoa
          have HOE := Lib.hid hoe
          clear hset hoe hoa hx5
          go_wp2_with fail
          refine bodyPost_ret (v := .tuple #[.agg #[.int .i64 0, .slice none 0 0, .slice none 0 0], .int .i64 11]) ?_ rfl ?_
          · simp [results, Tryd.results9, go_sem, g0, g1, g2]
          · rw [HOA.out, HOE.out]
            exact ⟨none, 0, 0, none, 0, 0, rfl, autRd_nil _ _, bel3T (HB04.out.trans (hb5.mono (by omega))) (Nat.le_refl _) _ _ _⟩
end Go.Proofs.YtamhjgkigjpbhaaDoor
