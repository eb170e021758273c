/- CoverRises. -/
import Derived.Test.YtedohmcnjlhdnaaCwL2
import Derived.Test.YtedohmcnjlhdnaaIMap28
namespace Go.Proofs.Ytedohmcnjlhdnaa
open Go.RowKit Go.Maps

theorem rise_ok {l : List Nat} (h : l.Pairwise (· < ·)) {k : Nat} (hk : k + 1 < l.length) : decide (((l[k + 1] : Nat) : Int) ≤ ((l[k]'(by omega) : Nat) : Int)) = false := by
  have := List.pairwise_iff_getElem.1 h k (k + 1) (by omega) hk (by omega)
  simp; omega
theorem leaves_small {f : List Nd} (hN : isN f = true) (n : Nat) {w : Way} (hw : WOk f w) (h1 : w.need < 256) (h2 : w.ban < 256) : ∀ y ∈ leaves f n w, y.need < 256 ∧ y.ban < 256 := by
  intro y hy
  exact way_ind (kidsOk_of hN) (fun w y => w.need < 256 → w.ban < 256 → y.need < 256 ∧ y.ban < 256) (fun w _ _ a b => ⟨a, b⟩) (fun w j t x y hw hs hx _ ih a b => by
    obtain ⟨hm, _, hj⟩ := made_ok hw hs
    obtain ⟨c, d, _⟩ := split_small (ndF hN hj) (w := w.made j t) a b x hx
    exact ih c d) n w hw y hy h1 h2
theorem askedL_facts {f : List Nd} {ps : List Int} (h : goodB f ps = true) : (askedL f ps).Nodup ∧ ∀ c ∈ askedL f ps, CovN f.length c ∧ c.1 &&& c.2.1 = 0 ∧ c.1 < 256 ∧ c.2.1 < 256 ∧ ∀ z ∈ ps, z ∈ natI (onL c.2.2.2) := by
  obtain ⟨h1, _, h2, h3⟩ := good_parts h
  have ha : askedL f ps = coversL f (ps.map Int.toNat) := by unfold askedL; rw [if_pos h]
  rw [ha]
  obtain ⟨hn, hc⟩ := coversL_rises (kidsOk_of h1) h2
  refine ⟨hn, fun c hcm => ?_⟩
  obtain ⟨a, b, d, e⟩ := hc c hcm
  have hsm : c.1 < 256 ∧ c.2.1 < 256 := by
    rcases (onceC_mem _ _ _).1 hcm with h | h
    · cases h
    · obtain ⟨y, hy, rfl⟩ := List.mem_map.1 h
      exact leaves_small h1 (f.length + 1) (startW_ok h2) (by show 0 < 256; omega) (by show 0 < 256; omega) y hy
  refine ⟨⟨d, e⟩, a, hsm.1, hsm.2, fun z hz => ?_⟩
  have hz2 : z.toNat ∈ onL c.2.2.2 := onL_mem.2 (b z.toNat (List.mem_map.2 ⟨z, hz, rfl⟩))
  have : (z.toNat : Int) ∈ natI (ps.map Int.toNat) := by unfold natI; exact List.mem_map.2 ⟨z.toNat, List.mem_map.2 ⟨z, hz, rfl⟩, rfl⟩
  have hzz : (z.toNat : Int) = z := by
    have hz3 : z ∈ natI (ps.map Int.toNat) := by rw [h3]; exact hz
    unfold natI at hz3
    obtain ⟨m, _, rfl⟩ := List.mem_map.1 hz3
    simp
  unfold natI
  exact List.mem_map.2 ⟨z.toNat, hz2, hzz⟩
set_option maxHeartbeats 8000000 in
set_option maxRecDepth 100000 in
theorem CoverRises_any (A : Option Addr) (c : Nat) (f : List Nd) (Ap : Option Addr) (np cp : Nat) (ps : List Int) (w : World) (hf : Sl w w.heap.size 2 A f.length c (ncells f)) (hp : Sl w w.heap.size 1 Ap np cp (icells ps)) (hnp : np = ps.length) (hl : f.length ≤ 8796093022208) (hpl : np ≤ 17592186044416) :
    Calls Try.prog 12 #[.slice A f.length c, .slice Ap np cp] w (Tru w true) := by
  have HAS := Lib.hid (asked28_any A c f Ap np cp ps w w.heap.size hf hp hnp (Nat.le_refl _) hl hpl)
  cases has : askedB f ps
  case' false =>
    rw [has] at HAS
    clear hf hp has hnp
    go_enter Try.func12, Try.ntmps12
    go_wp2_with fail
    refine Calls.mono HAS.out ?_
    rintro e w1 ⟨rfl, hb1⟩
    go_wp2_with fail
    refine Calls.mono (lives28_any w1) ?_
    rintro e w2 ⟨rfl, hb2⟩
    go_wp2_with fail
    go_ret
    exact ⟨rfl, hb1.trans (hb2.mono hb1.size)⟩
  rw [has] at HAS
  have hgd : goodB f ps = true ∧ farB f np = false := by
    unfold askedB at has
    simp only [Bool.and_eq_true, Bool.not_eq_true'] at has
    rw [hnp]; exact ⟨has.2, has.1⟩
  obtain ⟨h9, hf2, hp6⟩ := far_no28 hgd.2
  have HOF := Lib.hid (fun (w' : World) (hb : Below w.heap.size w w') => of_any A c f Ap np cp ps w' ((hf.below hb (Nat.le_refl _)).up hb.size) ((hp.below hb (Nat.le_refl _)).up hb.size) hnp (by omega) (by omega) (few_of h9))
  have HP := Lib.hid hp
  obtain ⟨hND, hCF⟩ := askedL_facts hgd.1
  have HCF := Lib.hid hCF
  have HND := Lib.hid hND
  have hTl := askedL_len (ps := ps) h9
  have hcp := hp.cap
  generalize askedL f ps = T at *
  subst hnp
  clear hf hp has h9 hgd hCF hND
  go_enter Try.func12, Try.ntmps12
  go_wp2_with fail
  refine Calls.mono HAS.out ?_
  rintro e w1 ⟨rfl, hb1⟩
  have hz1 := hb1.size
  have HO1 := Lib.hid (HOF.out w1 hb1)
  go_wp2_with fail
  refine Calls.mono HO1.out ?_
  rintro e w9 ⟨va, xa, rfl, howa, hca, hb2⟩
  obtain ⟨AA, cA, rfl, hsa⟩ := own_sl howa
  have hb09 := hb1.trans (hb2.mono hz1)
  have hz9 := hb09.size
  have hcapa := hsa.cap
  have HSA := Lib.hid hsa
  have HCA := Lib.hid hca
  clear howa HO1 HOF hsa hca hb1 hb2 HAS
  go_wp2_with fail
  go_loopw [26] (fun i wr => ∃ k : Nat, k ≤ T.length ∧ i = .int .i64 k ∧ Below w9.heap.size w9 wr) (fun i _ => T.length - (intOf i).toNat)
  case atStart => exact ⟨0, by omega, rfl, Below.refl _ _⟩
  case round =>
    obtain ⟨i, hi, rfl, hbr⟩ := hrel
    have hsr := hbr.size
    by_cases hlt : i < T.length
    · obtain ⟨ba, oa, E1, e1, E2, e2, rfl, hbal, p0, p1, p2, p3, tm1, tm2⟩ := rd_cov (HSA.out.below hbr (Nat.le_refl _)).rd (HCA.out.keep (Tch.of_below hbr) (spares_new _ _)) (List.getElem?_eq_getElem hlt)
      obtain ⟨hoi, hand0, hn8, hb8, hparts⟩ := HCF.out T[i] (List.getElem_mem hlt)
      have hle1 : (onL T[i].2.2.1).length ≤ 1000 := Nat.le_trans (onL_len _) (by rw [hoi.1]; omega)
      have hle2 : (onL T[i].2.2.2).length ≤ 1000 := Nat.le_trans (onL_len _) (by rw [hoi.2]; omega)
      have hle3 : ∀ z ∈ onL T[i].2.2.1, z < 1000 := fun z hz => by
        unfold onL at hz
        have := List.mem_range.1 (List.mem_filter.1 hz).1
        rw [hoi.1] at this; omega
      have hle4 : ∀ z ∈ onL T[i].2.2.2, z < 1000 := fun z hz => by
        unfold onL at hz
        have := List.mem_range.1 (List.mem_filter.1 hz).1
        rw [hoi.2] at this; omega
      have hand := and_u64' (x := T[i].1) (y := T[i].2.1) (by omega) (by omega)
      rw [hand0] at hand
      have hdf : ∀ (k : Nat) (hk : k < T.length), k < i → T[k] ≠ T[i] := fun k hk hki e => by
        have := (List.pairwise_iff_getElem.1 HND.out) k i hk hlt hki
        exact this e
      have HDF : Hid (∀ (k : Nat) (hk : k < T.length), k < i → decide (T[k] = T[i]) = false) := Lib.hid (fun k hk hki => decide_eq_false (hdf k hk hki))
      have hrs1 := onL_rise T[i].2.2.1
      have hrs2 := onL_rise T[i].2.2.2
      generalize T[i] = x at *
      have HR1 := Lib.hid hrs1
      have HR2 := Lib.hid hrs2
      have HL3 := Lib.hid hle3
      have HL4 := Lib.hid hle4
      have HPT := Lib.hid hparts
      have HCX := Lib.hid hoi
      have HT1 := Lib.hid tm1
      have HT2 := Lib.hid tm2
      have hk1 := tm1.sl.cap
      have hk2 := tm2.sl.cap
      have wi : IntKind.i64.wrap ((i : Int) + 1) = i + 1 := by rw [IntKind.wrap_i64]; omega
      obtain ⟨hbb, pbx, pmp, zz⟩ := box5 wr (.cells #[.int .u64 (x.1 : Int), .int .u64 (x.2.1 : Int), .slice E1 (onL x.2.2.1).length e1, .slice E2 (onL x.2.2.2).length e2] 48) (.map #[] 0)
      obtain ⟨W0, hW0⟩ : ∃ W0, (wr.alloc (.cells #[.int .u64 (x.1 : Int), .int .u64 (x.2.1 : Int), .slice E1 (onL x.2.2.1).length e1, .slice E2 (onL x.2.2.2).length e2] 48)).alloc (.map #[] 0) = W0 := ⟨_, rfl⟩
      rw [hW0] at hbb pbx pmp zz
      have HS1 := Lib.hid (tm1.sl.below hbb (Nat.le_refl _))
      have HS2 := Lib.hid (tm2.sl.below hbb (Nat.le_refl _))
      have HB9 := Lib.hid (hbr.trans (hbb.mono hsr))
      have h9b : w9.heap.size ≤ wr.heap.size := hsr
      have HW0 := Lib.hid hW0
      obtain ⟨bx, hbx⟩ : ∃ bx, wr.heap.size = bx := ⟨_, rfl⟩
      rw [hbx] at pbx pmp zz HS1 HS2 h9b
      have HMP := Lib.hid (IMap.of_blk pmp)
      have HBX := Lib.hid pbx
      have hmk := run_makeMap (P := Try.prog) 54
      have hNl : ∀ (l : List Nat) (k : Nat) (h : k < l.length), (natI l)[k]? = some ((l[k] : Nat) : Int) := fun l k h => by simp [natI, h]
      clear hrs1 hrs2 hle3 hle4 hparts hdf hoi hand0 tm1 tm2 hW0 pmp pbx hn8 hb8 hsr hbr hbb
      go_wp2_with fail
      try rw [HW0.out]
      clear hmk hbx HW0 p0 p1 p2 p3 hbal
      generalize hL1 : onL x.2.2.1 = L1 at *
      generalize hL2 : onL x.2.2.2 = L2 at *
      have HL1 := Lib.hid hL1
      have HL2 := Lib.hid hL2
      clear hL1 hL2
      go_loopw [35] (fun v wr => ∃ k : Nat, k ≤ L2.length ∧ v = .int .i64 k ∧ Below bx W0 wr ∧ wr.heap[bx]? = some (.cells #[.int .u64 (x.1 : Int), .int .u64 (x.2.1 : Int), .slice E1 L1.length e1, .slice E2 L2.length e2] 48 (0, 0)) ∧ IMap wr (bx + 1) (natI (L2.take k))) (fun v _ => L2.length - (intOf v).toNat)
      case atStart => exact ⟨0, by omega, rfl, Below.refl _ _, HBX.out, HMP.out⟩
      case round =>
        obtain ⟨k, hk, rfl, hbi, hbxc, hmp⟩ := hrel
        have hsi := hbi.size
        by_cases hlk : k < L2.length
        · obtain ⟨bb, o, rfl, hbbl, hc0⟩ := HS2.out.rd.at_ (icells_at' (l := natI L2) (k := k) (by simp [natI]; exact hlk))
          rw [show (natI L2)[k]'(by simp [natI]; exact hlk) = ((L2[k] : Nat) : Int) by simp [natI]] at hc0
          have hc := (hbi.cell (p := ⟨bb, o + k, none⟩) hbbl).trans hc0
          have hz1 := HL4.out L2[k] (List.getElem_mem hlk)
          have wk : IntKind.i64.wrap ((k : Int) + 1) = k + 1 := by rw [IntKind.wrap_i64]; omega
          clear hc0
          have hsn : natI (L2.take (k + 1)) = natI (L2.take k) ++ [((L2[k] : Nat) : Int)] := by rw [take_snoc L2 k hlk]; unfold natI; rw [List.map_append]; rfl
          obtain ⟨w3, hrun, hm3, hg3⟩ := hmp.update (x := ((L2[k] : Nat) : Int)) (by omega) (by simp [natI]; omega)
          rw [← hsn] at hm3
          have t3 : Tch (fun k => k = bx + 1) wr w3 := (Tch.of_grown hg3).mono (fun i _ e => by simpa using e.symm)
          have hb3 : Below bx W0 w3 := hbi.trans (t3.below (by omega) (fun k hk e => by omega))
          have hbx3 := t3.blk hbxc (by omega)
          have hcp := (t3.below (B := bx) (by omega) (fun k hk e => by omega))
          replace hc := hc
          have HM3 := Lib.hid hm3
          have HBX3 := Lib.hid hbx3
          obtain ⟨g0, g1, g2, g3⟩ := cell4 hbx3
          clear hsn hm3 hbx3 hbxc hmp hg3 t3
          by_cases hk0 : k = 0
          · subst hk0
            generalize L2[0] = z at *
            simp only [Nat.add_zero] at hc
            go_wp2_with fail
            go_roundw
            case rel => exact ⟨1, by omega, by go_num, hb3, HBX3.out, HM3.out⟩
            case measure => simp [intOf]; omega
          · obtain ⟨m, hm⟩ : ∃ m, k = m + 1 := ⟨k - 1, by omega⟩
            have hml : m < L2.length := by omega
            have hcm0 : W0.cell? ⟨bb, o + m, none⟩ = some (.int .i64 ((L2[m] : Nat) : Int)) := by
              obtain ⟨b2, o2, he, hl2, hc2⟩ := HS2.out.rd.at_ (icells_at' (l := natI L2) (k := m) (by simp [natI]; exact hml))
              cases he
              rw [show (natI L2)[m]'(by simp [natI]; exact hml) = ((L2[m] : Nat) : Int) by simp [natI]] at hc2
              exact hc2
            have hcm := (hb3.cell (p := ⟨bb, o + m, none⟩) hbbl).trans hcm0
            have hlt2 : decide (L2[k] ≤ L2[m]) = false := by
              have := List.pairwise_iff_getElem.1 HR2.out m k (by omega) hlk (by omega)
              simp; omega
            have hw1 : IntKind.i64.wrap ((k : Int) - 1) = m := by rw [IntKind.wrap_i64]; omega
            have hk0' : decide (0 < k) = true := by simp; omega
            generalize L2[k] = z at *
            generalize L2[m] = y at *
            clear hcm0 hk0 hm
            go_wp2_with fail
            go_roundw
            case rel => exact ⟨k + 1, by omega, by go_num, hb3, HBX3.out, HM3.out⟩
            case measure => simp [intOf]; omega
        · have hkl : k = L2.length := by omega
          subst hkl
          rw [List.take_of_length_le (Nat.le_refl _)] at hmp
          obtain ⟨g0, g1, g2, g3⟩ := cell4 hbxc
          clear hlk
          go_wp2_with fail
          clear g0 g1 g2 g3
          go_loopw [58] (fun v wr => ∃ k : Nat, k ≤ L1.length ∧ v = .int .i64 k ∧ Below bx W0 wr ∧ wr.heap[bx]? = some (.cells #[.int .u64 (x.1 : Int), .int .u64 (x.2.1 : Int), .slice E1 L1.length e1, .slice E2 L2.length e2] 48 (0, 0)) ∧ IMap wr (bx + 1) (natI L2)) (fun v _ => L1.length - (intOf v).toNat)
          case atStart => exact ⟨0, by omega, rfl, hbi, hbxc, hmp⟩
          case round =>
            obtain ⟨k, hk, rfl, hbi, hbxc, hmp⟩ := hrel
            have hsi := hbi.size
            by_cases hlk : k < L1.length
            · obtain ⟨bb, o, rfl, hbbl, hc0⟩ := HS1.out.rd.at_ (icells_at' (l := natI L1) (k := k) (by simp [natI]; exact hlk))
              rw [show (natI L1)[k]'(by simp [natI]; exact hlk) = ((L1[k] : Nat) : Int) by simp [natI]] at hc0
              have hc := (hbi.cell (p := ⟨bb, o + k, none⟩) hbbl).trans hc0
              have hz1 := HL3.out L1[k] (List.getElem_mem hlk)
              have wk : IntKind.i64.wrap ((k : Int) + 1) = k + 1 := by rw [IntKind.wrap_i64]; omega
              clear hc0
              have hb3 := hbi
              have HM3 := Lib.hid hmp
              have HBX3 := Lib.hid hbxc
              obtain ⟨g0, g1, g2, g3⟩ := cell4 hbxc
              clear hbxc hmp
              by_cases hk0 : k = 0
              · subst hk0
                generalize L1[0] = z at *
                simp only [Nat.add_zero] at hc
                go_wp2_with fail
                go_roundw
                case rel => exact ⟨1, by omega, by go_num, hb3, HBX3.out, HM3.out⟩
                case measure => simp [intOf]; omega
              · obtain ⟨m, hm⟩ : ∃ m, k = m + 1 := ⟨k - 1, by omega⟩
                have hml : m < L1.length := by omega
                have hcm0 : W0.cell? ⟨bb, o + m, none⟩ = some (.int .i64 ((L1[m] : Nat) : Int)) := by
                  obtain ⟨b2, o2, he, hl2, hc2⟩ := HS1.out.rd.at_ (icells_at' (l := natI L1) (k := m) (by simp [natI]; exact hml))
                  cases he
                  rw [show (natI L1)[m]'(by simp [natI]; exact hml) = ((L1[m] : Nat) : Int) by simp [natI]] at hc2
                  exact hc2
                have hcm := (hb3.cell (p := ⟨bb, o + m, none⟩) hbbl).trans hcm0
                have hlt2 : decide (L1[k] ≤ L1[m]) = false := by
                  have := List.pairwise_iff_getElem.1 HR1.out m k (by omega) hlk (by omega)
                  simp; omega
                have hw1 : IntKind.i64.wrap ((k : Int) - 1) = m := by rw [IntKind.wrap_i64]; omega
                have hk0' : decide (0 < k) = true := by simp; omega
                generalize L1[k] = z at *
                generalize L1[m] = y at *
                clear hcm0 hk0 hm
                go_wp2_with fail
                go_roundw
                case rel => exact ⟨k + 1, by omega, by go_num, hb3, HBX3.out, HM3.out⟩
                case measure => simp [intOf]; omega
            · have hkl : k = L1.length := by omega
              subst hkl
              obtain ⟨g0, g1, g2, g3⟩ := cell4 hbxc
              clear hlk
              go_wp2_with fail
              clear g0 g1 g2 g3
              go_loopw [78] (fun v wr => ∃ k : Nat, k ≤ ps.length ∧ v = .int .i64 k ∧ Below bx W0 wr ∧ wr.heap[bx]? = some (.cells #[.int .u64 (x.1 : Int), .int .u64 (x.2.1 : Int), .slice E1 L1.length e1, .slice E2 L2.length e2] 48 (0, 0)) ∧ IMap wr (bx + 1) (natI L2)) (fun v _ => ps.length - (intOf v).toNat)
              case atStart => exact ⟨0, by omega, rfl, hbi, hbxc, hmp⟩
              case round =>
                obtain ⟨k, hk, rfl, hbi, hbxc, hmp⟩ := hrel
                have hsi := hbi.size
                by_cases hlk : k < ps.length
                · obtain ⟨bp, op, rfl, hbpl, hc0⟩ := HP.out.rd.at_ (icells_at' hlk)
                  have hbw := hb09.trans ((HB9.out.trans (hbi.mono h9b)).mono hz9)
                  have hc := (hbw.cell (p := ⟨bp, op + k, none⟩) hbpl).trans hc0
                  have hmem := HPT.out ps[k] (List.getElem_mem hlk)
                  have wk : IntKind.i64.wrap ((k : Int) + 1) = k + 1 := by rw [IntKind.wrap_i64]; omega
                  generalize ps[k] = z at *
                  have hzb : -9223372036854775808 ≤ z ∧ z ≤ 9223372036854775807 := by
                    unfold natI at hmem
                    obtain ⟨m, hm, rfl⟩ := List.mem_map.1 hmem
                    have := HL4.out m hm
                    omega
                  have hrun := hmp.lookup hzb
                  rw [decide_eq_true hmem] at hrun
                  clear hc0 hmem hzb
                  go_wp2_with fail
                  go_roundw
                  case rel => exact ⟨k + 1, by omega, by go_num, hbi, hbxc, hmp⟩
                  case measure => simp [intOf]; omega
                · have hkl : k = ps.length := by omega
                  subst hkl
                  obtain ⟨g0, g1, g2, g3⟩ := cell4 hbxc
                  clear hlk hmp
                  go_wp2_with fail
                  clear g0 g1 g2 g3
                  go_loopw [94] (fun v wr => ∃ k : Nat, k ≤ i ∧ v = .int .i64 k ∧ Below bx W0 wr ∧ wr.heap[bx]? = some (.cells #[.int .u64 (x.1 : Int), .int .u64 (x.2.1 : Int), .slice E1 L1.length e1, .slice E2 L2.length e2] 48 (0, 0))) (fun v _ => i - (intOf v).toNat)
                  case atStart => exact ⟨0, by omega, rfl, hbi, hbxc⟩
                  case round =>
                    obtain ⟨k, hk, rfl, hbi, hbxc⟩ := hrel
                    have hsi := hbi.size
                    by_cases hlk : k < i
                    · have hkT : k < T.length := by omega
                      have hb9r := HB9.out.trans (hbi.mono h9b)
                      obtain ⟨ba', oa', D1, d1, D2, d2, hA', hbl', q0, q1, q2, q3, tn1, tn2⟩ := rd_cov (HSA.out.below hb9r (Nat.le_refl _)).rd (HCA.out.keep (Tch.of_below hb9r) (spares_new _ _)) (List.getElem?_eq_getElem hkT)
                      cases hA'
                      obtain ⟨p0, p1, p2, p3⟩ := cell4 hbxc
                      obtain ⟨hcn, -, -, -, -⟩ := HCF.out T[k] (List.getElem_mem hkT)
                      have hsame := cov_same hcn HCX.out
                      rw [HDF.out k hkT hlk, HL1.out, HL2.out] at hsame
                      have hle5 : (onL T[k].2.2.1).length ≤ 1000 := Nat.le_trans (onL_len _) (by rw [hcn.1]; omega)
                      have hle6 : (onL T[k].2.2.2).length ≤ 1000 := Nat.le_trans (onL_len _) (by rw [hcn.2]; omega)
                      have wk : IntKind.i64.wrap ((k : Int) + 1) = k + 1 := by rw [IntKind.wrap_i64]; omega
                      generalize T[k] = y at *
                      have hbd : Below wr.heap.size wr wr.drew := Below.drew (Below.refl _ _)
                      obtain ⟨wd, hwd⟩ : ∃ wd, wr.drew = wd := ⟨_, rfl⟩
                      rw [hwd] at hbd
                      have HWD := Lib.hid hwd
                      have hb0d : Below bx W0 wd := hbi.trans (hbd.mono (by omega))
                      have hSm := sameR_any (y.1 : Int) (y.2.1 : Int) (x.1 : Int) (x.2.1 : Int) D1 D2 E1 E2 (onL y.2.2.1).length (onL y.2.2.2).length L1.length L2.length d1 d2 e1 e2 (natI (onL y.2.2.1)) (natI (onL y.2.2.2)) (natI L1) (natI L2) wd wr.heap.size (tn1.sl.below hbd (Nat.le_refl _)) (tn2.sl.below hbd (Nat.le_refl _)) ((HS1.out.below hb0d (Nat.le_refl _)).up (by omega)) ((HS2.out.below hb0d (Nat.le_refl _)).up (by omega)) hbd.size (by simp [natI]) (by simp [natI]) (by simp [natI]) (by simp [natI]) (by omega) (by omega)
                      rw [hsame] at hSm
                      have HSame := Lib.hid hSm
                      have HBXC := Lib.hid hbxc
                      clear hwd hSm hsame tn1 tn2 hbxc hcn
                      go_wp2_with fail
                      refine wp_region_held_drew (S := fun w' => w'.cell? ⟨ba, oa + k * 4, none⟩ = some (.int .u64 (y.1 : Int)) ∧ w'.cell? ⟨ba, oa + k * 4 + 1, none⟩ = some (.int .u64 (y.2.1 : Int)) ∧ w'.cell? ⟨ba, oa + k * 4 + 2, none⟩ = some (.slice D1 (onL y.2.2.1).length d1) ∧ w'.cell? ⟨ba, oa + k * 4 + 3, none⟩ = some (.slice D2 (onL y.2.2.2).length d2) ∧ w'.cell? ⟨bx, 0, none⟩ = some (.int .u64 (x.1 : Int)) ∧ w'.cell? ⟨bx, 1, none⟩ = some (.int .u64 (x.2.1 : Int)) ∧ w'.cell? ⟨bx, 2, none⟩ = some (.slice E1 L1.length e1) ∧ w'.cell? ⟨bx, 3, none⟩ = some (.slice E2 L2.length e2)) (by kernel_rfl) ⟨q0, q1, q2, q3, p0, p1, p2, p3⟩ (fun hS => ?_)
                      refine wpAnyH_takeD (i := 0) (v := ?_) rfl (by kernel_rfl) (by kernel_rfl) (by kernel_rfl) (fun _ _ _ h => h) (Or.inl ⟨by kernel_rfl, ?_⟩) hS ?_
                      rotate_left 1
                      · (intro w' hSw; (try dsimp only at hSw); go_simp; try (with_reducible rfl))
                      try simp only [Act.put, List.setIfInBounds_toArray, List.set_cons_zero, List.set_cons_succ]
                      refine wpAnyH_takeD (i := 1) (v := ?_) rfl (by kernel_rfl) (by kernel_rfl) (by kernel_rfl) (fun _ _ _ h => h) (Or.inl ⟨by kernel_rfl, ?_⟩) hS ?_
                      rotate_left 1
                      · (intro w' hSw; (try dsimp only at hSw); go_simp; try (with_reducible rfl))
                      try simp only [Act.put, List.setIfInBounds_toArray, List.set_cons_zero, List.set_cons_succ]
                      refine wpAnyH_takeD (i := 2) (v := ?_) rfl (by kernel_rfl) (by kernel_rfl) (by kernel_rfl) (fun _ _ _ h => h) (Or.inl ⟨by kernel_rfl, ?_⟩) hS ?_
                      rotate_left 1
                      · (intro w' hSw; (try dsimp only at hSw); go_simp; try (with_reducible rfl))
                      try simp only [Act.put, List.setIfInBounds_toArray, List.set_cons_zero, List.set_cons_succ]
                      refine wpAnyH_takeD (i := 3) (v := ?_) rfl (by kernel_rfl) (by kernel_rfl) (by kernel_rfl) (fun _ _ _ h => h) (Or.inl ⟨by kernel_rfl, ?_⟩) hS ?_
                      rotate_left 1
                      · (intro w' hSw; (try dsimp only at hSw); go_simp; try (with_reducible rfl))
                      try simp only [Act.put, List.setIfInBounds_toArray, List.set_cons_zero, List.set_cons_succ]
                      refine wpAnyH_takeD (i := 4) (v := ?_) rfl (by kernel_rfl) (by kernel_rfl) (by kernel_rfl) (fun _ _ _ h => h) (Or.inl ⟨by kernel_rfl, ?_⟩) hS ?_
                      rotate_left 1
                      · (intro w' hSw; (try dsimp only at hSw); go_simp; try (with_reducible rfl))
                      try simp only [Act.put, List.setIfInBounds_toArray, List.set_cons_zero, List.set_cons_succ]
                      refine wpAnyH_oneD (i := 5) rfl (by kernel_rfl) (fun K hK => ?_)
                      go_simp
                      rw [HWD.out]
                      refine Calls.mono HSame.out ?_
                      rintro e wx ⟨rfl, hbx'⟩
                      have hbx : Below wr.heap.size wr wx := hbd.trans (hbx'.mono hbd.size)
                      clear hbx'
                      dsimp only
                      refine hK.out _ _ ⟨(hbx.cell (p := ⟨ba, oa + k * 4, none⟩) (Nat.lt_of_lt_of_le hbl' hb9r.size)).trans q0, (hbx.cell (p := ⟨ba, oa + k * 4 + 1, none⟩) (Nat.lt_of_lt_of_le hbl' hb9r.size)).trans q1, (hbx.cell (p := ⟨ba, oa + k * 4 + 2, none⟩) (Nat.lt_of_lt_of_le hbl' hb9r.size)).trans q2, (hbx.cell (p := ⟨ba, oa + k * 4 + 3, none⟩) (Nat.lt_of_lt_of_le hbl' hb9r.size)).trans q3, (hbx.cell (p := ⟨bx, 0, none⟩) (heap_lt HBXC.out)).trans p0, (hbx.cell (p := ⟨bx, 1, none⟩) (heap_lt HBXC.out)).trans p1, (hbx.cell (p := ⟨bx, 2, none⟩) (heap_lt HBXC.out)).trans p2, (hbx.cell (p := ⟨bx, 3, none⟩) (heap_lt HBXC.out)).trans p3⟩ (fun hS => ?_)
                      clear hK
                      try simp only [Act.put, List.setIfInBounds_toArray, List.set_cons_zero, List.set_cons_succ]
                      refine wpAnyH_done (by kernel_rfl) ?_ _
                      go_wp2_with fail
                      go_roundw
                      case rel => exact ⟨k + 1, by omega, by go_num, hbi.trans (hbx.mono (by omega)), (hbx.block bx (heap_lt HBXC.out)).trans HBXC.out⟩
                      case measure => simp [intOf]; omega
                    · have hkl : k = i := by omega
                      subst hkl
                      clear hlk
                      go_wp2_with fail
                      go_roundw
                      case rel => exact ⟨k + 1, by omega, by go_num, HB9.out.trans (hbi.mono h9b)⟩
                      case measure => simp [intOf]; omega
    · have hkl : i = T.length := by omega
      subst hkl
      go_wp2_with fail
      refine Calls.mono (lives28_any wr) ?_
      rintro e wl ⟨rfl, hbl⟩
      go_wp2_with fail
      go_ret
      exact ⟨rfl, hb09.trans ((hbr.trans (hbl.mono hsr)).mono hz9)⟩
end Go.Proofs.Ytedohmcnjlhdnaa
