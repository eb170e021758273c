/- The walk of fix: Fair. -/
import Derived.Test.YtfpncpjdmgfkbaaFx9
import Derived.Test.YtfpncpjdmgfkbaaFixT
import Derived.Laws.CopyOwn
import Derived.Deep.LoopGhost
namespace Go.Proofs.Ytfpncpjdmgfkbaa
open Go.RowKit

theorem own_block {w : World} {base e g n : Nat} {xs : List Value} (h : w.heap[g]? = some (.cells xs.toArray e (0, 0))) (hn : xs.length = n) (hb : base ≤ g) (hm : n ≤ maxLen) : w.ownsRow base e 1 (.slice (some ⟨g, 0, none⟩) n n) n xs :=
  ⟨by simp [hn], .inr ⟨g, n, _, rfl, hb, h, Nat.le_refl _, hm, by simp [hn], by simp [← hn]⟩⟩
theorem GInv.done' {E : List (List Nd)} {asks : List (Nat → Bool)} {z : List Bool} (h : GInv E asks z) (hs : SubB z (roundZ E asks z)) : Gfp E asks z := h.done hs
theorem gfp_exists (E : List (List Nd)) (asks : List (Nat → Bool)) : ∃ z, Gfp E asks z := by
  suffices h : ∀ (n : Nat) z, cntB z ≤ n → GInv E asks z → ∃ z, Gfp E asks z from h _ _ (Nat.le_refl _) (GInv.start E asks)
  intro n
  induction n with
  | zero =>
    intro z hz h
    by_cases e : roundZ E asks z = z
    · exact ⟨z, h.done (by rw [e]; exact SubB.refl _)⟩
    · have := cntB_round h.1 e; omega
  | succ n ih =>
    intro z hz h
    by_cases e : roundZ E asks z = z
    · exact ⟨z, h.done (by rw [e]; exact SubB.refl _)⟩
    · have := cntB_round h.1 e
      exact ih _ (by omega) h.round
theorem cntB_all (n : Nat) : cntB (List.replicate n true) ≤ n := by have := cntB_le (List.replicate n true); simpa using this
theorem roundZ_take {E : List (List Nd)} {sets : List (List Bool)} {z : List Bool} {k : Nat} (hk : k < sets.length) : roundZ E ((sets.take (k + 1)).map askOf) z = stepZ E (roundZ E ((sets.take k).map askOf) z) (askOf sets[k]) := by
  rw [take_snoc sets k hk, List.map_append, roundZ, List.foldl_append]; rfl

/-- A row of bools, copied into a row that was just made. -/
theorem copy_run {w : World} {n c : Nat} {A : Option Addr} {z : List Bool} (hs : Sl w w.heap.size 1 A n c (bcells z)) (hn : n = z.length) (hm : n ≤ maxLen) :
    ∃ W', (Builtin.copy_ #[35, 35] 3 #[.slice (some ⟨w.heap.size, 0, none⟩) n n, .slice A n c]).run Try.prog (w.alloc (.cells (madeCells #[.bool false] n) 4)) = .ok (.int .i64 (n : Int)) W' ∧ Below w.heap.size w W' ∧
      W'.ownsRow w.heap.size 4 1 (.slice (some ⟨w.heap.size, 0, none⟩) n n) n (bcells z) := by
  have hbl : (bcells z).length = n := by rw [bcells, List.length_map, hn]
  have hbA : Below w.heap.size w (w.alloc (.cells (madeCells #[.bool false] n) 4)) := (Below.refl _ _).alloc (Nat.le_refl _) _
  have hmk : (madeCells #[Value.bool false] n) = (List.replicate n (Value.bool false)).toArray := by rw [← toList_madeCells_one (.bool false) n]
  have hhp : (w.alloc (.cells (madeCells #[.bool false] n) 4)).heap[w.heap.size]? = some (.cells (madeCells #[.bool false] n) 4 (0, 0)) := heap_alloc_new _ _
  by_cases h0 : n = 0
  · refine ⟨_, ?_, hbA, own_block (xs := bcells z) ?_ hbl (Nat.le_refl _) hm⟩
    · have := run_copy_none (P := Try.prog) (w.alloc (.cells (madeCells #[.bool false] n) 4)) 35 35 3 4 (some ⟨w.heap.size, 0, none⟩) A n n n c Try.underlying35 (by kernel_rfl) (by rw [h0]; rfl)
      rw [this, h0]; rfl
    · rw [hhp, hmk]
      have : bcells z = [] := List.eq_nil_of_length_eq_zero (by omega)
      rw [this, h0]; rfl
  · obtain ⟨b, o, hA, hbb, _⟩ := hs.rd.at_ (j := 0) (u := (bcells z)[0]'(by omega)) (List.getElem?_eq_getElem (by omega))
    have hsrc : ∀ j v, (bcells z)[j]? = some v → (w.alloc (.cells (madeCells #[.bool false] n) 4)).cell? ((⟨b, o, none⟩ : Addr).add j) = some v := by
      intro j v hv
      obtain ⟨b', o', hA', hbb', hc⟩ := hs.rd.at_ hv
      rw [hA] at hA'
      cases hA'
      have : (⟨b, o, none⟩ : Addr).add j = ⟨b, o + j, none⟩ := by simp only [Addr.add]; split <;> simp_all
      rw [this, World.cell?_alloc_lt _ _ _ hbb]; exact hc
    have := run_copy_row (P := Try.prog) (w.alloc (.cells (madeCells #[.bool false] n) 4)) 35 35 3 4 w.heap.size 0 n n ⟨b, o, none⟩ n c (madeCells #[.bool false] n) 4 (bcells z) Try.underlying35 (by kernel_rfl) hhp (by rw [hbl]; simp) hsrc (by rw [hbl, hmk]; simp) (fun v hv => by
      obtain ⟨b, _, rfl⟩ := List.mem_map.1 hv
      rfl)
    rw [hbl, ← hA] at this
    refine ⟨_, this, below_setRow hbA (Nat.le_refl _) _, own_block (xs := bcells z) ?_ hbl (Nat.le_refl _) hm⟩
    rw [setRow_heap _ _ _ _ _ _ hhp]
    simp [hmk]

section
variable (ai ae al : Option Addr) (ni ci ne ce nl cl : Nat)
set_option maxHeartbeats 4000000 in
theorem ffair_any (G : Gph) (sets : List (List Bool)) (As : Option Addr) (ns cs : Nat) (zg : List Bool) (w : World) (B : Nat) (h : GrRd w B ai ni ci ae ne ce al nl cl G) (hs : Sl2 w B 1 As ns cs (sets.map bcells)) (hzg : Gfp G.edges (asksOf sets) zg) (hB : B ≤ w.heap.size) (he : ne ≤ 65536) (K : Nat) (hr : ∀ l ∈ G.edges, l.length ≤ K) (hK2 : K ≤ 1000) (hns : ns ≤ 1000000) :
    Calls Try.prog 37 #[.agg #[.slice ai ni ci, .slice ae ne ce, .slice al nl cl], .slice As ns cs] w (NewRow w 4 1 ne (bcells zg) False) := by
  obtain ⟨w0, hw0, hb0, hz0, hx0, hx1, hx2⟩ := boxed3 w (.slice ai ni ci) (.slice ae ne ce) (.slice al nl cl) 26
  have HW0 := Lib.hid hw0
  have h' := h.below hb0 hB
  have hs' := hs.below hb0 hB
  have HLE := Lib.hid h.lens.2.1
  have hzg := Lib.hid hzg
  have hmk := run_make_row' (P := Try.prog) 35 4 (.bool false) 1 Try.underlying35 infoBool rfl .i64 .i64 ne (by omega) (by omega)
  have hzl : w.heap.size < w0.heap.size := by omega
  have HSN : Hid (ns = sets.length) := Lib.hid (by have := hs.len; simpa using this)
  have HX := Lib.hid (And.intro hx0 (And.intro hx1 hx2))
  clear hw0 h hs
  go_enter Try.func37, Try.ntmps37
  go_wp2
  rw [← HW0.out]
  obtain ⟨qf, hqe⟩ : ∃ q, q = w0.heap.size := ⟨_, rfl⟩
  have hF0 : ∃ W, W = (w0.alloc (.cells (madeCells #[.bool false] ne) 4)) ∧ W.ownsRow qf 4 1 (.slice (some ⟨qf, 0, none⟩) ne ne) ne (bcells ((List.range 0).map (fun _ => true) ++ List.replicate (ne - 0) false)) ∧ Below qf w0 W := by
    refine ⟨_, rfl, ?_, (Below.refl _ _).alloc (by rw [hqe]; exact Nat.le_refl _) _⟩
    have := own_made (w := w0) (base := qf) (e := 4) (n := ne) (v := .bool false) (by rw [hqe]; exact Nat.le_refl _) (by unfold maxLen; omega)
    rw [← hqe] at this
    simpa [bcells] using this
  obtain ⟨W, hW, hown, hbW⟩ := hF0
  have hqs : w0.heap.size + 1 = qf + 1 := by omega
  have hqg : qf = w.heap.size + 1 := by omega
  rw [← hz0, ← hqe, ← hW]
  have hq1 : qf ≤ w0.heap.size := by omega
  have hq2 : w0.heap.size ≤ qf := by omega
  clear hW hqe hqs hqg HW0 hz0
  go_loopw [16] (fun i wr => ∃ k : Nat, k ≤ ne ∧ i = .int .i64 k ∧ wr.ownsRow qf 4 1 (.slice (some ⟨qf, 0, none⟩) ne ne) ne (bcells ((List.range k).map (fun _ => true) ++ List.replicate (ne - k) false)) ∧ Below qf w0 wr) (fun i _ => ne - (intOf i).toNat)
  case atStart => exact ⟨0, by omega, rfl, hown, hbW⟩
  case round =>
    obtain ⟨k, hk, rfl, hF, ht⟩ := hrel
    clear hown hbW
    by_cases hlt : k < ne
    · obtain ⟨_, f1, f2, _⟩ := own_getb hF hlt
      have hcell := (own_getb hF hlt).1
      have hF2 := own_setb (t := k) (d := true) hF
      rw [row_set hlt (fun _ => true) false] at hF2
      have HF2 := Lib.hid hF2
      have HT := Lib.hid (ht.setCell (p := ⟨qf, k, none⟩) (Nat.le_refl _) (.bool true))
      clear hF hF2 ht
      go_wp2
      go_roundw
      case rel => exact ⟨k + 1, by omega, by go_num, HF2.out, HT.out⟩
      case measure => simp [intOf]; omega
    · have hkn : k = ne := by omega
      have hF1 : wr.ownsRow qf 4 1 (.slice (some ⟨qf, 0, none⟩) ne ne) ne (bcells (List.replicate ne true)) := by
        have : (List.range k).map (fun _ => true) ++ List.replicate (ne - k) false = List.replicate ne true := by
          rw [hkn]
          refine List.ext_getElem (by simp) (fun i h1 h2 => by simp)
        rw [this] at hF; exact hF
      have HF1 := Lib.hid (own_base hF1 (show w0.heap.size ≤ qf from hq2))
      have HT := Lib.hid (ht.mono hq2)
      clear hF hF1 ht hkn
      have HI0 : Hid (GInv G.edges (asksOf sets) (List.replicate ne true)) := Lib.hid (by have := GInv.start G.edges (asksOf sets); rwa [← HLE.out] at this)
      go_wp2
      go_loopg [5] ne (fun gk l wr => ∃ z : List Bool, wr.ownsRow w0.heap.size 4 1 l ne (bcells z) ∧ l ≠ .slice none 0 0 ∧ Hid (GInv G.edges (asksOf sets) z) ∧ Hid (cntB z ≤ gk) ∧ Below w0.heap.size w0 wr)
      case atStart => exact ⟨List.replicate ne true, HF1.out, by simp, HI0, Lib.hid (cntB_all ne), HT.out⟩
      case round =>
        clear HF1 HT HI0
        obtain ⟨z, hO, hnn, HI, HC, hbr⟩ := hrel
        obtain ⟨wp, rfl⟩ : ∃ wp : World, wp = wr := ⟨_, rfl⟩
        obtain ⟨Az, cz, rfl, hsz⟩ := own_sl hO
        have hzn : ne = z.length := by have := hO.1; simpa [bcells] using this.symm
        have hszr := hbr.size
        have HZN := Lib.hid hzn
        obtain ⟨w1, hcp, hb1, hown1⟩ := copy_run hsz hzn (by unfold maxLen; omega)
        clear hzn
        have hzw1 := hb1.size
        have hbw1 : Below w0.heap.size w0 w1 := hbr.trans (hb1.mono hszr)
        have y0 := (hbw1.cell (p := ⟨w.heap.size, 0, none⟩) hzl).trans HX.out.1
        have y1 := (hbw1.cell (p := ⟨w.heap.size, 1, none⟩) hzl).trans HX.out.2.1
        have y2 := (hbw1.cell (p := ⟨w.heap.size, 2, none⟩) hzl).trans HX.out.2.2
        have HOW := Lib.hid (own_below hO hb1)
        have HWS := Lib.hid hown1
        have hbw0 := hbw1.size
        clear hown1 hO
        by_cases hns0 : ns = 0
        · have hse : sets = [] := List.eq_nil_of_length_eq_zero (by rw [← HSN.out]; exact hns0)
          have hnsb : ((ns : Int) == 0) = true := by simp [hns0]
          have HST := Lib.hid (fstep1_any ai ae al ni ci ne ce nl cl G z Az cz (fun _ => true) w1 w1.heap.size ((h'.below hbw1 (by omega)).up (by omega)) ((hsz.below hb1 (Nat.le_refl _)).up (by omega)) HZN.out (Nat.le_refl _) he K hr hK2 (fun W k _ _ => fair1_any _ _))
          have hasl : asksOf sets = [fun _ => true] := by rw [asksOf, if_pos hse]
          have HE0 : Hid (roundZ G.edges (sets.map askOf) (stepZ G.edges z (fun _ => true)) = roundZ G.edges (asksOf sets) z) := Lib.hid (by rw [hasl, hse]; rfl)
          generalize hzs : stepZ G.edges z (fun _ => true) = zs at *
          clear hse hns0 hasl hzs
          go_wp2_with fail
          refine HST.out.mono ?_
          rintro e w2 ⟨v2, rfl, hO2, hb2, hnn2⟩
          have hbw2 : Below w0.heap.size w0 w2 := hbw1.trans (hb2.mono hbw0)
          have hnnl : v2 ≠ .slice none 0 0 := fun h => hnn2.1 h
          have HOL := Lib.hid (own_base hO2 (show w0.heap.size ≤ w1.heap.size from hbw0))
          have HWAS := Lib.hid (own_below HWS.out hb2)
          clear HST hO2 hb2 hnn2 y0 y1 y2 HOW HWS hcp hmk
          go_wp2
          go_loopw [5, 37] (fun l i wr => ∃ (k : Nat) (z1 : List Bool), k ≤ ns ∧ i = .int .i64 k ∧ wr.ownsRow w0.heap.size 4 1 l ne (bcells z1) ∧ l ≠ .slice none 0 0 ∧ Hid (z1 = roundZ G.edges ((sets.take k).map askOf) zs) ∧ Below w2.heap.size w2 wr) (fun _ i _ => ns - (intOf i).toNat)
          case atStart => exact ⟨0, zs, by omega, rfl, HOL.out, hnnl, Lib.hid rfl, Below.refl _ _⟩
          case round =>
            obtain ⟨k, z1, hk, rfl, hO1, hnn1, HZ1, hbx⟩ := hrel
            obtain ⟨Al, cl1, rfl, hsl⟩ := own_sl hO1
            have hbx0 : Below w0.heap.size w0 wr := hbw2.trans (hbx.mono hbw2.size)
            have hz1n : ne = z1.length := by have := hO1.1; simpa [bcells] using this.symm
            have hszx := hbx0.size
            have hzlx : w.heap.size < wr.heap.size := by omega
            have HZ1N := Lib.hid hz1n
            clear hz1n
            by_cases hlt : k < ns
            · have hkS : k < sets.length := by rw [← HSN.out]; exact hlt
              obtain ⟨b, o, A', n', c', rfl, hbb, hc0, hrow⟩ := hs'.at_ (j := k) (ys := bcells sets[k]) (by simp [hkS])
              have hc := (hbx0.cell (p := ⟨b, o + k, none⟩) (show b < w0.heap.size by omega)).trans hc0
              have hn' : n' = sets[k].length := by have := hrow.len; simpa [bcells] using this.symm
              have HRT := Lib.hid (roundZ_take (E := G.edges) (z := zs) hkS)
              generalize sets[k] = s at *
              obtain ⟨wa, hwa⟩ : ∃ W, W = wr.alloc (.cells #[.slice A' n' c'] 35) := ⟨_, rfl⟩
              have hba : Below wr.heap.size wr wa := by rw [hwa]; exact (Below.refl _ _).alloc (Nat.le_refl _) _
              have hwa1 := hba.size
              have hbwa : Below w0.heap.size w0 wa := hbx0.trans (hba.mono hszx)
              have hwac : wa.cell? ⟨wr.heap.size, 0, none⟩ = some (.slice A' n' c') := by rw [hwa, World.cell?_alloc_new]; rfl
              have hwas : wa.heap.size = wr.heap.size + 1 := by rw [hwa]; simp
              have x0 := (hbx0.cell (p := ⟨w.heap.size, 0, none⟩) hzl).trans HX.out.1
              have x1 := (hbx0.cell (p := ⟨w.heap.size, 1, none⟩) hzl).trans HX.out.2.1
              have x2 := (hbx0.cell (p := ⟨w.heap.size, 2, none⟩) hzl).trans HX.out.2.2
              have HST := Lib.hid (fstep2_any ai ae al ni ci ne ce nl cl G z1 Al cl1 wr.heap.size (askOf s) wa wa.heap.size ((h'.below hbwa (by omega)).up (by omega)) ((hsl.below hba (Nat.le_refl _)).up (by omega)) HZ1N.out (Nat.le_refl _) he K hr hK2 (fun W j hj hbW =>
                fair2_any A' n' c' wr.heap.size s (j : Int) W B hn' (hrow.below (hbwa.trans (hbW.mono (by omega))) (by omega)) (by have := hbW.size; omega) ((hbW.cell (p := ⟨wr.heap.size, 0, none⟩) (show wr.heap.size < wa.heap.size by omega)).trans hwac)))
              have HWA := Lib.hid hwa
              have HHS := Lib.hid hsl
              clear hwa hsl hwac hn' hO1 hwas HE0
              go_wp2_with fail
              rw [← HWA.out]
              refine HST.out.mono ?_
              rintro e w4 ⟨v4, rfl, hO4, hb4, hnn4⟩
              have HO4 := Lib.hid (own_base hO4 (show w0.heap.size ≤ wa.heap.size by omega))
              have HB4 := Lib.hid (hbx.trans ((hba.trans (hb4.mono hba.size)).mono hbx.size))
              have hn4 : v4 ≠ .slice none 0 0 := fun h => hnn4.1 h
              clear HST hO4 hb4 hnn4 x0 x1 x2 hc
              go_wp2
              go_roundw
              case rel => exact ⟨k + 1, _, by omega, by go_num, HO4.out, hn4, Lib.hid (by rw [HRT.out, ← HZ1.out]), HB4.out⟩
              case measure => simp [intOf]; omega
            · have hkn : k = ns := by omega
              have HZR : Hid (z1 = roundZ G.edges (asksOf sets) z) := Lib.hid (by
                have := HZ1.out
                rw [List.take_of_length_le (by rw [← HSN.out]; omega)] at this
                rw [this]; exact HE0.out)
              have hwr : Sl wr wr.heap.size 1 (some ⟨wp.heap.size, 0, none⟩) ne ne (bcells z) := by
                obtain ⟨A5, c5, he5, hs5⟩ := own_sl (own_below HWAS.out hbx)
                cases he5; exact hs5
              have HE := Lib.hid (fequal_any (some ⟨wp.heap.size, 0, none⟩) Al ne ne cl1 z z1 wr _ _ hwr hsl HZN.out HZ1N.out (by omega))
              have HO1 := Lib.hid hO1
              have HB1 := Lib.hid hbx0
              clear hkn hsl hO1 hbx0 hwr
              by_cases hzz : z = z1
              · have HEQ : Hid (decide (z = z1) = true) := Lib.hid (by simpa using hzz)
                have HGF : Hid (z1 = zg) := Lib.hid (by
                  have := (HI.out.done (by rw [← HZR.out, ← hzz]; exact SubB.refl _)).uniq hzg.out
                  rw [← hzz]; exact this)
                clear hzz
                go_wp2_with fail
                refine HE.out.mono ?_
                rintro e _ ⟨rfl, nd5, rfl⟩
                obtain ⟨w5, hw5⟩ : ∃ W, W = wr.drewN nd5 := ⟨_, rfl⟩
                have hb5 := below_len hw5
                rw [← hw5, HEQ.out]
                clear hw5
                go_wp2
                go_ret
                exact ⟨_, rfl, by rw [← HGF.out]; exact own_base (own_below HO1.out hb5) (by omega), hb0.trans ((HB1.out.trans (hb5.mono HB1.out.size)).mono (by omega)), ⟨fun h => absurd h hnn1, False.elim⟩⟩
              · have HEQ : Hid (decide (z = z1) = false) := Lib.hid (by simpa using hzz)
                have HCL : Hid (cntB z1 < gk) := Lib.hid (Nat.lt_of_lt_of_le (by rw [HZR.out]; exact cntB_round HI.out.1 (by rw [← HZR.out]; exact fun e => hzz e.symm)) HC.out)
                clear hzz
                go_wp2_with fail
                refine HE.out.mono ?_
                rintro e _ ⟨rfl, nd5, rfl⟩
                obtain ⟨w5, hw5⟩ : ∃ W, W = wr.drewN nd5 := ⟨_, rfl⟩
                have hb5 := below_len hw5
                rw [← hw5, HEQ.out]
                clear hw5
                have HO5 := Lib.hid (own_below HO1.out hb5)
                have HB5 := Lib.hid (HB1.out.trans (hb5.mono HB1.out.size))
                have HI1 := Lib.hid (HI.out.round)
                rw [← HZR.out] at HI1
                go_wp2
                go_roundg (cntB z1)
                case measure => exact HCL.out
                case rel => exact ⟨z1, HO5.out, hnn1, HI1, Lib.hid (Nat.le_refl _), HB5.out⟩
        · have hnsb : ((ns : Int) == 0) = false := by simpa using hns0
          have hse : sets ≠ [] := fun h => hns0 (by rw [HSN.out, h]; rfl)
          have hasl : asksOf sets = sets.map askOf := by rw [asksOf, if_neg hse]
          obtain ⟨zs, hzs⟩ : ∃ zs, zs = z := ⟨_, rfl⟩
          have HE0 : Hid (roundZ G.edges (sets.map askOf) zs = roundZ G.edges (asksOf sets) z) := Lib.hid (by rw [hasl, hzs])
          obtain ⟨w2, rfl⟩ : ∃ W : World, W = w1 := ⟨_, rfl⟩
          have hnnl := hnn
          have hbw2 := hbw1
          rw [← hzs] at HOW
          have HOL := HOW
          have HWAS := HWS
          clear hse hns0 hasl hzs
          go_wp2
          clear y0 y1 y2 hmk hcp
          go_loopw [5, 37] (fun l i wr => ∃ (k : Nat) (z1 : List Bool), k ≤ ns ∧ i = .int .i64 k ∧ wr.ownsRow w0.heap.size 4 1 l ne (bcells z1) ∧ l ≠ .slice none 0 0 ∧ Hid (z1 = roundZ G.edges ((sets.take k).map askOf) zs) ∧ Below w2.heap.size w2 wr) (fun _ i _ => ns - (intOf i).toNat)
          case atStart => exact ⟨0, zs, by omega, rfl, HOL.out, hnnl, Lib.hid rfl, Below.refl _ _⟩
          case round =>
            obtain ⟨k, z1, hk, rfl, hO1, hnn1, HZ1, hbx⟩ := hrel
            obtain ⟨Al, cl1, rfl, hsl⟩ := own_sl hO1
            have hbx0 : Below w0.heap.size w0 wr := hbw2.trans (hbx.mono hbw2.size)
            have hz1n : ne = z1.length := by have := hO1.1; simpa [bcells] using this.symm
            have hszx := hbx0.size
            have hzlx : w.heap.size < wr.heap.size := by omega
            have HZ1N := Lib.hid hz1n
            clear hz1n
            by_cases hlt : k < ns
            · have hkS : k < sets.length := by rw [← HSN.out]; exact hlt
              obtain ⟨b, o, A', n', c', rfl, hbb, hc0, hrow⟩ := hs'.at_ (j := k) (ys := bcells sets[k]) (by simp [hkS])
              have hc := (hbx0.cell (p := ⟨b, o + k, none⟩) (show b < w0.heap.size by omega)).trans hc0
              have hn' : n' = sets[k].length := by have := hrow.len; simpa [bcells] using this.symm
              have HRT := Lib.hid (roundZ_take (E := G.edges) (z := zs) hkS)
              generalize sets[k] = s at *
              obtain ⟨wa, hwa⟩ : ∃ W, W = wr.alloc (.cells #[.slice A' n' c'] 35) := ⟨_, rfl⟩
              have hba : Below wr.heap.size wr wa := by rw [hwa]; exact (Below.refl _ _).alloc (Nat.le_refl _) _
              have hwa1 := hba.size
              have hbwa : Below w0.heap.size w0 wa := hbx0.trans (hba.mono hszx)
              have hwac : wa.cell? ⟨wr.heap.size, 0, none⟩ = some (.slice A' n' c') := by rw [hwa, World.cell?_alloc_new]; rfl
              have hwas : wa.heap.size = wr.heap.size + 1 := by rw [hwa]; simp
              have x0 := (hbx0.cell (p := ⟨w.heap.size, 0, none⟩) hzl).trans HX.out.1
              have x1 := (hbx0.cell (p := ⟨w.heap.size, 1, none⟩) hzl).trans HX.out.2.1
              have x2 := (hbx0.cell (p := ⟨w.heap.size, 2, none⟩) hzl).trans HX.out.2.2
              have HST := Lib.hid (fstep2_any ai ae al ni ci ne ce nl cl G z1 Al cl1 wr.heap.size (askOf s) wa wa.heap.size ((h'.below hbwa (by omega)).up (by omega)) ((hsl.below hba (Nat.le_refl _)).up (by omega)) HZ1N.out (Nat.le_refl _) he K hr hK2 (fun W j hj hbW =>
                fair2_any A' n' c' wr.heap.size s (j : Int) W B hn' (hrow.below (hbwa.trans (hbW.mono (by omega))) (by omega)) (by have := hbW.size; omega) ((hbW.cell (p := ⟨wr.heap.size, 0, none⟩) (show wr.heap.size < wa.heap.size by omega)).trans hwac)))
              have HWA := Lib.hid hwa
              have HHS := Lib.hid hsl
              clear hwa hsl hwac hn' hO1 hwas HE0
              go_wp2_with fail
              rw [← HWA.out]
              refine HST.out.mono ?_
              rintro e w4 ⟨v4, rfl, hO4, hb4, hnn4⟩
              have HO4 := Lib.hid (own_base hO4 (show w0.heap.size ≤ wa.heap.size by omega))
              have HB4 := Lib.hid (hbx.trans ((hba.trans (hb4.mono hba.size)).mono hbx.size))
              have hn4 : v4 ≠ .slice none 0 0 := fun h => hnn4.1 h
              clear HST hO4 hb4 hnn4 x0 x1 x2 hc
              go_wp2
              go_roundw
              case rel => exact ⟨k + 1, _, by omega, by go_num, HO4.out, hn4, Lib.hid (by rw [HRT.out, ← HZ1.out]), HB4.out⟩
              case measure => simp [intOf]; omega
            · have hkn : k = ns := by omega
              have HZR : Hid (z1 = roundZ G.edges (asksOf sets) z) := Lib.hid (by
                have := HZ1.out
                rw [List.take_of_length_le (by rw [← HSN.out]; omega)] at this
                rw [this]; exact HE0.out)
              have hwr : Sl wr wr.heap.size 1 (some ⟨wp.heap.size, 0, none⟩) ne ne (bcells z) := by
                obtain ⟨A5, c5, he5, hs5⟩ := own_sl (own_below HWAS.out hbx)
                cases he5; exact hs5
              have HE := Lib.hid (fequal_any (some ⟨wp.heap.size, 0, none⟩) Al ne ne cl1 z z1 wr _ _ hwr hsl HZN.out HZ1N.out (by omega))
              have HO1 := Lib.hid hO1
              have HB1 := Lib.hid hbx0
              clear hkn hsl hO1 hbx0 hwr
              by_cases hzz : z = z1
              · have HEQ : Hid (decide (z = z1) = true) := Lib.hid (by simpa using hzz)
                have HGF : Hid (z1 = zg) := Lib.hid (by
                  have := (HI.out.done (by rw [← HZR.out, ← hzz]; exact SubB.refl _)).uniq hzg.out
                  rw [← hzz]; exact this)
                clear hzz
                go_wp2_with fail
                refine HE.out.mono ?_
                rintro e _ ⟨rfl, nd5, rfl⟩
                obtain ⟨w5, hw5⟩ : ∃ W, W = wr.drewN nd5 := ⟨_, rfl⟩
                have hb5 := below_len hw5
                rw [← hw5, HEQ.out]
                clear hw5
                go_wp2
                go_ret
                exact ⟨_, rfl, by rw [← HGF.out]; exact own_base (own_below HO1.out hb5) (by omega), hb0.trans ((HB1.out.trans (hb5.mono HB1.out.size)).mono (by omega)), ⟨fun h => absurd h hnn1, False.elim⟩⟩
              · have HEQ : Hid (decide (z = z1) = false) := Lib.hid (by simpa using hzz)
                have HCL : Hid (cntB z1 < gk) := Lib.hid (Nat.lt_of_lt_of_le (by rw [HZR.out]; exact cntB_round HI.out.1 (by rw [← HZR.out]; exact fun e => hzz e.symm)) HC.out)
                clear hzz
                go_wp2_with fail
                refine HE.out.mono ?_
                rintro e _ ⟨rfl, nd5, rfl⟩
                obtain ⟨w5, hw5⟩ : ∃ W, W = wr.drewN nd5 := ⟨_, rfl⟩
                have hb5 := below_len hw5
                rw [← hw5, HEQ.out]
                clear hw5
                have HO5 := Lib.hid (own_below HO1.out hb5)
                have HB5 := Lib.hid (HB1.out.trans (hb5.mono HB1.out.size))
                have HI1 := Lib.hid (HI.out.round)
                rw [← HZR.out] at HI1
                go_wp2
                go_roundg (cntB z1)
                case measure => exact HCL.out
                case rel => exact ⟨z1, HO5.out, hnn1, HI1, Lib.hid (Nat.le_refl _), HB5.out⟩
end
end Go.Proofs.Ytfpncpjdmgfkbaa
