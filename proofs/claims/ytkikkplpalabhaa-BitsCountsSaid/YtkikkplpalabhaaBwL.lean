/- The law of layer 3: BitsCounts. -/
import Derived.Test.YtkikkplpalabhaaBw5
namespace Go.Proofs.Ytkikkplpalabhaa
open Go.RowKit

theorem bit_and {W V : List Nat} (h : W.length = V.length) {n k : Nat} (hn : W.length = (n + 63) / 64) (hk : k < n) : bitOf (List.zipWith (· &&& ·) W V) k = (bitOf W k && bitOf V k) := by
  rw [bitOf, zip_get _ h (by omega), Nat.testBit_and]; rfl
theorem bit_or {W V : List Nat} (h : W.length = V.length) {n k : Nat} (hn : W.length = (n + 63) / 64) (hk : k < n) : bitOf (List.zipWith (· ||| ·) W V) k = (bitOf W k || bitOf V k) := by
  rw [bitOf, zip_get _ h (by omega), Nat.testBit_or]; rfl
theorem bit_minus {W V : List Nat} (h : W.length = V.length) (hW : ∀ x ∈ W, x < 2 ^ 64) (hV : ∀ x ∈ V, x < 2 ^ 64) {n k : Nat} (hn : W.length = (n + 63) / 64) (hk : k < n) : bitOf (List.zipWith bare64 W V) k = (bitOf W k && !bitOf V k) := by
  have h1 : k / 64 < W.length := by omega
  have hx : W.getD (k / 64) 0 < 2 ^ 64 := by
    simp only [List.getD_eq_getElem?_getD, List.getElem?_eq_getElem h1, Option.getD_some]; exact hW _ (List.getElem_mem h1)
  have hy : V.getD (k / 64) 0 < 2 ^ 64 := by
    have h2 : k / 64 < V.length := by omega
    simp only [List.getD_eq_getElem?_getD, List.getElem?_eq_getElem h2, Option.getD_some]; exact hV _ (List.getElem_mem h2)
  rw [bitOf, zip_get _ h h1, bare64_bit hx hy]; rfl
theorem hasI_nat {n k : Nat} (W : List Nat) (hk : k < n) : hasI n W (k : Int) = bitOf W k := by simp [hasI, inB, hk]

set_option maxHeartbeats 8000000 in
set_option maxRecDepth 100000 in
theorem BitsCounts_any (n : Int) (A A2 : Option Addr) (m c m2 c2 : Nat) (l l2 : List Int) (w : World) (hm : m = l.length) (hm2 : m2 = l2.length) (hs : Sl w w.heap.size 1 A m c (icells l)) (hs2 : Sl w w.heap.size 1 A2 m2 c2 (icells l2)) (hl : m ≤ 17592186044416) (hl2 : m2 ≤ 17592186044416) :
    Calls Try.prog 3 #[.int .i64 n, .slice A m c, .slice A2 m2 c2] w (Tru w true) := by
  have hcase : 300 < n ∨ (n ≤ 300 ∧ 100 < m) ∨ (n ≤ 300 ∧ m ≤ 100 ∧ 100 < m2) ∨ (n ≤ 300 ∧ m ≤ 100 ∧ m2 ≤ 100 ∧ n < 0) ∨ (m ≤ 100 ∧ m2 ≤ 100 ∧ 0 ≤ n ∧ n ≤ 300) := by omega
  rcases hcase with h | ⟨h, h'⟩ | ⟨h, h', h''⟩ | ⟨h, h', h'', h0⟩ | ⟨h', h'', h0, h⟩
  · have d1 : decide (300 < n) = true := by simpa using h
    clear hm hm2
    go_enter Try.func3, Try.ntmps3
    go_wp2_with fail
    refine (bawake_any _).mono ?_
    rintro e w1 ⟨rfl, hb1⟩
    go_wp2
    go_ret
    exact ⟨rfl, hb1⟩
  · have d1 : decide (300 < n) = false := by simpa using h
    have d2 : (100 : Int) < (m : Int) := by omega
    clear hm hm2
    go_enter Try.func3, Try.ntmps3
    go_wp2_with fail
    refine (bawake_any _).mono ?_
    rintro e w1 ⟨rfl, hb1⟩
    go_wp2
    go_ret
    exact ⟨rfl, hb1⟩
  · have d1 : decide (300 < n) = false := by simpa using h
    have d2 : decide ((100 : Int) < (m : Int)) = false := by simp; omega
    have d3 : (100 : Int) < (m2 : Int) := by omega
    clear hm hm2
    go_enter Try.func3, Try.ntmps3
    go_wp2_with fail
    refine (bawake_any _).mono ?_
    rintro e w1 ⟨rfl, hb1⟩
    go_wp2
    go_ret
    exact ⟨rfl, hb1⟩
  · have d1 : decide (300 < n) = false := by simpa using h
    have d2 : decide ((100 : Int) < (m : Int)) = false := by simp; omega
    have d3 : decide ((100 : Int) < (m2 : Int)) = false := by simp; omega
    have d4 : decide (n < 0) = true := by simpa using h0
    have HA := Lib.hid (bofNil_any n A m c l w w.heap.size (.inl h0) hm hs)
    have HB := Lib.hid (bofNil_any n A2 m2 c2 l2 w w.heap.size (.inl h0) hm2 hs2)
    clear hm hm2
    go_enter Try.func3, Try.ntmps3
    go_wp2_with fail
    refine Calls.mono HA.out ?_
    rintro e w' ⟨rfl, rfl⟩
    go_wp2_with fail
    refine Calls.mono HB.out ?_
    rintro e w' ⟨rfl, rfl⟩
    go_wp2_with fail
    refine (bawake_any _).mono ?_
    rintro e w1 ⟨rfl, hb1⟩
    go_wp2
    go_ret
    exact ⟨rfl, hb1⟩
  obtain ⟨n, rfl⟩ := Int.eq_ofNat_of_zero_le h0
  have d1 : decide ((300 : Int) < (n : Int)) = false := by simp; omega
  have d2 : decide ((100 : Int) < (m : Int)) = false := by simp; omega
  have d3 : decide ((100 : Int) < (m2 : Int)) = false := by simp; omega
  have hn3 : n ≤ 300 := by omega
  have HA := Lib.hid (bof_any n A m c l w w.heap.size (by omega) hm hs (Nat.le_refl _))
  have HB := Lib.hid (fun (w' : World) (hb : Below w.heap.size w w') => bof_any n A2 m2 c2 l2 w' w.heap.size (by omega) hm2 (hs2.below hb (Nat.le_refl _)) hb.size)
  generalize putsI n l (List.replicate ((n + 63) / 64) 0) = W at *
  generalize putsI n l2 (List.replicate ((n + 63) / 64) 0) = V at *
  clear hm hm2
  go_enter Try.func3, Try.ntmps3
  go_wp2_with fail
  refine Calls.mono HA.out ?_
  rintro e w1 ⟨S, q, rfl, hS, _, _, hb1⟩
  go_wp2_with fail
  refine Calls.mono (HB.out _ hb1) ?_
  rintro e w2 ⟨T, t, rfl, hT, _, _, hb2⟩
  have hS2 := hS.below hb2
  have hb02 := hb1.trans (hb2.mono hb1.size)
  clear hS HA HB hb2
  have HAN := Lib.hid (band_any S q n W T t V w2 hS2 hT)
  go_wp2_with fail
  refine Calls.mono HAN.out ?_
  rintro e w3 ⟨U, u, rfl, hU, _, _, hb3⟩
  have hb03 := hb02.trans (hb3.mono hb02.size)
  have hS3 := hS2.below hb3
  have hT3 := hT.below hb3
  clear HAN hS2 hT hb3
  have HOR := Lib.hid (bor_any S q n W T t V w3 hS3 hT3)
  go_wp2_with fail
  refine Calls.mono HOR.out ?_
  rintro e w4 ⟨O, ob, rfl, hO, _, _, hb4⟩
  have hb04 := hb03.trans (hb4.mono hb03.size)
  have hS4 := hS3.below hb4
  have hT4 := hT3.below hb4
  have hU4 := hU.below hb4
  clear HOR hS3 hT3 hU hb4
  have HMI := Lib.hid (bminus_any S q n W T t V w4 hS4 hT4)
  go_wp2_with fail
  refine Calls.mono HMI.out ?_
  rintro e w5 ⟨M, mb, rfl, hM, _, _, hb5⟩
  have hb05 := hb04.trans (hb5.mono hb04.size)
  have hS5 := hS4.below hb5
  have hT5 := hT4.below hb5
  have hU5 := hU4.below hb5
  have hO5 := hO.below hb5
  clear HMI hS4 hT4 hU4 hO hb5
  have hlW := hS5.len
  have hlV := hT5.len
  have hWV : W.length = V.length := by rw [hlW, hlV]
  have hcnt := cntW_both W V hWV
  have hb1' := cntW_le W W.length (Nat.le_refl _)
  have hb2' := cntW_le V V.length (Nat.le_refl _)
  rw [List.take_length] at hb1' hb2'
  have HCO := Lib.hid (bcount_any _ _ _ _ w5 hO5)
  have HCS := Lib.hid (bcount_any _ _ _ _ w5 hS5)
  have HCT := Lib.hid (bcount_any _ _ _ _ w5 hT5)
  have HCU := Lib.hid (bcount_any _ _ _ _ w5 hU5)
  have hback := orW_back W V hWV hS5.2.2.2.1 hT5.2.2.2.1
  have hor3 := bor_any U u n _ M mb _ w5 hU5 hM
  rw [show List.zipWith (· ||| ·) (List.zipWith (· &&& ·) W V) (List.zipWith bare64 W V) = W from hback] at hor3
  have HOR3 := Lib.hid hor3
  have HBI := Lib.hid (fun (k : Nat) (hk : k < n) => And.intro (bit_and hWV hlW hk) (And.intro (bit_or hWV hlW hk) (bit_minus hWV hS5.2.2.2.1 hT5.2.2.2.1 hlW hk)))
  have HHS' := Lib.hid (fun (k : Nat) => bhasI_any _ _ _ _ (k : Int) w5 hS5)
  have HHT' := Lib.hid (fun (k : Nat) => bhasI_any _ _ _ _ (k : Int) w5 hT5)
  have HHA' := Lib.hid (fun (k : Nat) => bhasI_any _ _ _ _ (k : Int) w5 hU5)
  have HHO' := Lib.hid (fun (k : Nat) => bhasI_any _ _ _ _ (k : Int) w5 hO5)
  have HHM' := Lib.hid (fun (k : Nat) => bhasI_any _ _ _ _ (k : Int) w5 hM)
  have HS5 := Lib.hid hS5
  change cntW (List.zipWith (· ||| ·) W V) + cntW (List.zipWith (· &&& ·) W V) = _ at hcnt
  generalize hA : List.zipWith (· &&& ·) W V = WA at *
  generalize hB : List.zipWith (· ||| ·) W V = WO at *
  generalize hC : List.zipWith bare64 W V = WM at *
  generalize cntW WO = co at *
  generalize cntW WA = ca at *
  generalize cntW W = cs at *
  generalize cntW V = ct at *
  have bs : cs ≤ 320 := by omega
  have bt : ct ≤ 320 := by omega
  have ba : ca ≤ 640 := by omega
  have e3 : (((cs : Int) + (ct : Int)) - (ca : Int)) = (co : Int) := by omega
  have e4 : ((co : Int) != (co : Int)) = false := by simp
  have E3 := Lib.hid e3
  clear hS5 hT5 hU5 hO5 hM hback hor3 hcnt hWV hlW hlV hb1' hb2' e3
  go_wp2_with fail
  refine Calls.mono HCO.out ?_
  rintro e w' ⟨rfl, rfl⟩
  go_wp2_with fail
  refine Calls.mono HCS.out ?_
  rintro e w' ⟨rfl, rfl⟩
  go_wp2_with fail
  refine Calls.mono HCT.out ?_
  rintro e w' ⟨rfl, rfl⟩
  go_wp2_with fail
  have e3 := E3.out
  refine Calls.mono HCU.out ?_
  rintro e w' ⟨rfl, rfl⟩
  go_wp2
  clear e3
  go_loop [12] (fun i => ∃ k : Nat, k ≤ n ∧ i = .int .i64 k) (fun i => n - (intOf i).toNat)
  case atStart => exact ⟨0, by omega, rfl⟩
  case round =>
    obtain ⟨k, hk, rfl⟩ := hrel
    by_cases hlt : k < n
    · obtain ⟨b1, b2, b3⟩ := HBI.out k hlt
      have h1 := HHS'.out k
      have h2 := HHT'.out k
      have h3 := HHA'.out k
      have h4 := HHO'.out k
      have h5 := HHM'.out k
      rw [hasI_nat _ hlt] at h1 h2 h3 h4 h5
      rw [b1] at h3
      rw [b2] at h4
      rw [b3] at h5
      clear b1 b2 b3
      generalize bitOf W k = s at *
      generalize bitOf V k = v at *
      have HHS := Lib.hid h1
      have HHT := Lib.hid h2
      have HHA := Lib.hid h3
      have HHO := Lib.hid h4
      have HHM := Lib.hid h5
      clear h1 h2 h3 h4 h5
      cases s <;> cases v
      rotate_left 1
      rotate_left 1
      rotate_left 1
      · go_wp2_with fail
        refine Calls.mono HHS.out ?_
        rintro e w' ⟨rfl, rfl⟩
        go_wp2_with fail
        refine Calls.mono HHA.out ?_
        rintro e w' ⟨rfl, rfl⟩
        go_wp2_with fail
        refine Calls.mono HHM.out ?_
        rintro e w' ⟨rfl, rfl⟩
        go_wp2_with fail
        refine Calls.mono HHA.out ?_
        rintro e w' ⟨rfl, rfl⟩
        go_wp2_with fail
        refine Calls.mono HHM.out ?_
        rintro e w' ⟨rfl, rfl⟩
        go_wp2_with fail
        refine Calls.mono HHO.out ?_
        rintro e w' ⟨rfl, rfl⟩
        go_wp2_with fail
        refine Calls.mono HHS.out ?_
        rintro e w' ⟨rfl, rfl⟩
        go_wp2
        go_round
        case rel => exact ⟨k + 1, by omega, by go_num⟩
        case measure => simp [intOf]; omega
      · go_wp2_with fail
        refine Calls.mono HHS.out ?_
        rintro e w' ⟨rfl, rfl⟩
        go_wp2_with fail
        refine Calls.mono HHA.out ?_
        rintro e w' ⟨rfl, rfl⟩
        go_wp2_with fail
        refine Calls.mono HHM.out ?_
        rintro e w' ⟨rfl, rfl⟩
        go_wp2_with fail
        refine Calls.mono HHA.out ?_
        rintro e w' ⟨rfl, rfl⟩
        go_wp2_with fail
        refine Calls.mono HHO.out ?_
        rintro e w' ⟨rfl, rfl⟩
        go_wp2_with fail
        refine Calls.mono HHS.out ?_
        rintro e w' ⟨rfl, rfl⟩
        go_wp2_with fail
        refine Calls.mono HHT.out ?_
        rintro e w' ⟨rfl, rfl⟩
        go_wp2
        go_round
        case rel => exact ⟨k + 1, by omega, by go_num⟩
        case measure => simp [intOf]; omega
      · go_wp2_with fail
        refine Calls.mono HHS.out ?_
        rintro e w' ⟨rfl, rfl⟩
        go_wp2_with fail
        refine Calls.mono HHA.out ?_
        rintro e w' ⟨rfl, rfl⟩
        go_wp2_with fail
        refine Calls.mono HHM.out ?_
        rintro e w' ⟨rfl, rfl⟩
        go_wp2_with fail
        refine Calls.mono HHA.out ?_
        rintro e w' ⟨rfl, rfl⟩
        go_wp2_with fail
        refine Calls.mono HHO.out ?_
        rintro e w' ⟨rfl, rfl⟩
        go_wp2_with fail
        refine Calls.mono HHS.out ?_
        rintro e w' ⟨rfl, rfl⟩
        go_wp2_with fail
        refine Calls.mono HHT.out ?_
        rintro e w' ⟨rfl, rfl⟩
        go_wp2
        go_round
        case rel => exact ⟨k + 1, by omega, by go_num⟩
        case measure => simp [intOf]; omega
      · go_wp2_with fail
        refine Calls.mono HHS.out ?_
        rintro e w' ⟨rfl, rfl⟩
        go_wp2_with fail
        refine Calls.mono HHA.out ?_
        rintro e w' ⟨rfl, rfl⟩
        go_wp2_with fail
        refine Calls.mono HHM.out ?_
        rintro e w' ⟨rfl, rfl⟩
        go_wp2_with fail
        refine Calls.mono HHA.out ?_
        rintro e w' ⟨rfl, rfl⟩
        go_wp2_with fail
        refine Calls.mono HHO.out ?_
        rintro e w' ⟨rfl, rfl⟩
        go_wp2_with fail
        refine Calls.mono HHS.out ?_
        rintro e w' ⟨rfl, rfl⟩
        go_wp2
        go_round
        case rel => exact ⟨k + 1, by omega, by go_num⟩
        case measure => simp [intOf]; omega
    · have hkn : k = n := by omega
      subst hkn
      go_wp2_with fail
      refine Calls.mono HOR3.out ?_
      rintro e w6 ⟨X, x, rfl, hX, _, _, hb6⟩
      have hb06 := hb05.trans (hb6.mono hb05.size)
      have hS6 := HS5.out.below hb6
      go_wp2_with fail
      refine (bsame_any _ _ _ _ _ _ w6 hX hS6).mono ?_
      rintro e w7 ⟨rfl, hb7⟩
      have hb07 := hb06.trans (hb7.mono hb06.size)
      go_wp2_with fail
      refine (bawake_any _).mono ?_
      rintro e w8 ⟨rfl, hb8⟩
      go_wp2
      go_ret
      exact ⟨rfl, hb07.trans (hb8.mono hb07.size)⟩
end Go.Proofs.Ytkikkplpalabhaa
