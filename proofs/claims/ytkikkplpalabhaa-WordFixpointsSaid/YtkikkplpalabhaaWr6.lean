/- The walks of layer 27's reference: part, period. -/
import Derived.Test.YtkikkplpalabhaaWr5
namespace Go.Proofs.Ytkikkplpalabhaa
open Go.RowKit

set_option maxHeartbeats 2000000 in
theorem rpart_any (A1 A2 : Option Addr) (n1 c1 n2 c2 : Nat) (fr tk : Nat) (st lo : List Int) (w : World) (B : Nat) (h : WRd w B A1 A2 n1 c1 n2 c2 st lo) (hB : B ≤ w.heap.size) (hl : n1 + n2 ≤ 60000) (hfr : fr ≤ 200000) (hto : tk ≤ 200000) :
    Calls Try.prog 75 #[.agg #[.slice A1 n1 c1, .slice A2 n2 c2], .int .i64 (fr : Int), .int .i64 (tk : Int)] w (NewRow w 38 1 (tk - fr) (ucells (partW (seqW st lo) fr tk)) (tk ≤ fr)) := by
  obtain ⟨hb0, q0, q1⟩ := wbox w A1 A2 n1 c1 n2 c2
  obtain ⟨w0, hw0⟩ : ∃ W, W = w.alloc (.cells #[.slice A1 n1 c1, .slice A2 n2 c2] 34) := ⟨_, rfl⟩
  have hzr : w.heap.size < w0.heap.size := by rw [hw0]; simp
  rw [← hw0] at hb0 q0 q1
  have HW0 := Lib.hid hw0
  have HB0 := Lib.hid hb0
  have HAT := Lib.hid (fun (W : World) (k : Nat) (hb : Below w.heap.size w W) (hk : k ≤ 1000000) => (atW_nat st lo k) ▸ rAt_any A1 A2 n1 c1 n2 c2 st lo (k : Int) W B (h.below hb hB) (Nat.le_trans hB hb.size) hl (by omega))
  have he : partW (seqW st lo) fr fr = [] := by simp [partW]
  have HE := Lib.hid he
  clear hw0 hb0 h he
  go_enter Try.func75, Try.ntmps75
  go_wp2_with fail
  rw [← HW0.out]
  clear HW0
  go_wp2
  go_loopw [7, 8] (fun v i wr => ∃ k : Nat, fr ≤ k ∧ (k ≤ tk ∨ k = fr) ∧ i = .int .i64 k ∧ wr.ownsRow w0.heap.size 38 1 v (k - fr) (ucells (partW (seqW st lo) fr k)) ∧ Below w0.heap.size w0 wr ∧ (v = .slice none 0 0 ↔ k = fr)) (fun _ i _ => tk - (intOf i).toNat)
  case atStart => exact ⟨fr, by omega, by omega, rfl, by rw [HE.out, Nat.sub_self]; exact World.ownsRow_nil _ _ _ _, Below.refl _ _, ⟨fun _ => rfl, fun _ => rfl⟩⟩
  case round =>
    obtain ⟨k, hk, hk2, rfl, hown, hbel, hnil⟩ := hrel
    by_cases hlt : k < tk
    · have y0 := (hbel.cell (p := ⟨w.heap.size, 0, none⟩) hzr).trans q0
      have y1 := (hbel.cell (p := ⟨w.heap.size, 1, none⟩) hzr).trans q1
      have hbw := HB0.out.trans (hbel.mono HB0.out.size)
      have hsn := partW_snoc (s := seqW st lo) hk
      have HAC := Lib.hid (HAT.out wr k hbw (by omega))
      generalize seqW st lo k = x at *
      have HSN := Lib.hid hsn
      have HO := Lib.hid hown
      clear hsn hown hnil hbw
      go_wp2_with fail
      refine Calls.mono HAC.out ?_
      rintro e w5 ⟨rfl, hb5⟩
      have hown := own_below HO.out hb5
      have hb05 := hbel.trans (hb5.mono hbel.size)
      have hz5 := hb05.size
      have hkf : k - fr ≤ 200000 := by omega
      clear y0 y1 hb5
      go_wp2_with (at_builtin; refine wpList_push rfl (.tmp 15) (.tmp 19) 32 rfl w0.heap.size 38 1 8 sliceSets _ _ _ (hown.alloc _) rfl w5.heap.size #[.int .u64 x] rfl (heap_alloc_new w5 _) rfl (by simp [Value.oneCell']) (by omega) (by omega) (by simp; omega) ?_; intro v3 w3 hown3 ht3 hat3 hne3)
      go_roundw
      case rel =>
        refine ⟨k + 1, by omega, by omega, by go_num, ?_, ?_, ⟨fun hh => absurd hh hne3, fun hh => by omega⟩⟩
        · rw [HSN.out, show k + 1 - fr = k - fr + 1 by omega, ucells_append]; exact hown3
        · exact (hb05.alloc hz5 _).trans (ht3.below (by simp; omega) (fun g hg hh => by have := (hown.lt g hh).1; omega))
      case measure => simp [intOf]; omega
    · have hkt : tk - fr = k - fr := by omega
      have hp : partW (seqW st lo) fr k = partW (seqW st lo) fr tk := by unfold partW; rw [hkt]
      have HP := Lib.hid hp
      have HK := Lib.hid hkt
      have hlt' : ¬ ((k : Int) < (tk : Int)) := by omega
      have HNL := Lib.hid hnil
      clear hp hkt hnil
      go_wp2
      go_ret
      exact ⟨_, rfl, own_base (by rw [HK.out, ← HP.out]; exact hown) HB0.out.size, HB0.out.trans (hbel.mono HB0.out.size), HNL.out.trans ⟨fun hh => by omega, fun hh => by omega⟩⟩

set_option maxHeartbeats 2000000 in
theorem rperiod_any (A : Option Addr) (n c : Nat) (lo : List Int) (w : World) (B : Nat) (hs : Sl w B 1 A n c (ucells lo)) (hn : n = lo.length) (hl : n ≤ 60000) :
    Calls Try.prog 74 #[.slice A n c] w fun e w' => e = .returned (.int .i64 ((periodL lo : Nat) : Int)) ∧ ∃ m, w' = w.drewN m := by
  have HN := Lib.hid hn
  have HS := Lib.hid hs
  clear hn hs
  go_enter Try.func74, Try.ntmps74
  go_wp2
  go_loopw [3] (fun i wr => ∃ p m : Nat, 1 ≤ p ∧ (p ≤ n ∨ p = 1) ∧ i = .int .i64 p ∧ wr = w.drewN m ∧ Hid (∀ q, 1 ≤ q → q < p → perB lo q = false)) (fun i _ => n + 1 - (intOf i).toNat)
  case atStart => exact ⟨1, 0, by omega, by omega, rfl, rfl, Lib.hid (fun q h1 h2 => by omega)⟩
  case round =>
    obtain ⟨p, m, hp1, hp2, rfl, rfl, hq⟩ := hrel
    by_cases hlt : p < n
    · have hpi : (p : Int) < (n : Int) := by omega
      have hp0 : ¬ ((p : Int) = 0) := by omega
      have e2 : ((n : Int)).tmod (p : Int) = ((n % p : Nat) : Int) := by rw [Int.tmod_eq_emod_of_nonneg (by omega)]; omega
      generalize hr : n % p = r at *
      have HR := Lib.hid hr
      clear hr
      have e3 : (((r : Nat) : Int) == 0) = decide (r = 0) := by rw [Bool.eq_iff_iff]; simp
      go_wp2
      go_loopw [4, 5] (fun s i wr => ∃ (j m : Nat) (b : Bool), p ≤ j ∧ j ≤ n ∧ i = .int .i64 j ∧ s = .bool b ∧ wr = w.drewN m ∧ Hid (b = true ↔ r = 0 ∧ ∀ i, i + p < j → lo.getD (i + p) 0 = lo.getD i 0)) (fun _ i _ => n - (intOf i).toNat)
      case atStart => exact ⟨p, m, decide (r = 0), by omega, by omega, rfl, rfl, rfl, Lib.hid (by simp; intro _ i hi; omega)⟩
      case round =>
        obtain ⟨j, m, b, hj1, hj2, rfl, rfl, rfl, hb⟩ := hrel
        by_cases hjn : j < n
        · have hji : (j : Int) < (n : Int) := by omega
          cases b
          · go_wp2
            go_roundw
            case rel => exact ⟨p + 1, m, by omega, by omega, by go_num, rfl, Lib.hid (fun q h1 h2 => by
              by_cases hqp : q < p
              · exact hq.out q h1 hqp
              · have : q = p := by omega
                subst this
                rw [Bool.eq_false_iff]
                intro hper
                have hpi := (perB_iff h1 (by rw [← HN.out]; omega)).1 hper
                have := hb.out.2 ⟨by rw [← HR.out, HN.out]; exact hpi.1, fun i hi => hpi.2 i (by rw [← HN.out]; omega)⟩
                cases this)⟩
            case measure => simp [intOf]; omega
          · have hjx : j < lo.length := by rw [← HN.out]; exact hjn
            obtain ⟨d, hd⟩ : ∃ d, d = j - p := ⟨_, rfl⟩
            have hdx : d < lo.length := by omega
            have e1 : IntKind.i64.wrap ((j : Int) - (p : Int)) = (d : Int) := by rw [IntWalk.i64_in _ (by omega)]; omega
            obtain ⟨bk, o, rfl, _, hc⟩ := HS.out.rd.at_ (ucells_at hjx)
            obtain ⟨bk', o', hA, _, hc'⟩ := HS.out.rd.at_ (ucells_at hdx)
            cases hA
            have hd0 : (0 : Int) ≤ (d : Int) := by omega
            have hdn : (d : Int) < (n : Int) := by omega
            have hnext : ((lo.getD j 0 == lo.getD d 0) = true ↔ r = 0 ∧ ∀ i, i + p < j + 1 → lo.getD (i + p) 0 = lo.getD i 0) := by
              have hb' := hb.out.1 rfl
              rw [beq_iff_eq]
              constructor
              · intro he
                refine ⟨hb'.1, fun i hi => ?_⟩
                by_cases hij : i + p < j
                · exact hb'.2 i hij
                · rw [show i + p = j by omega, show i = d by omega]; exact he
              · intro hh
                have := hh.2 d (by omega)
                rwa [show d + p = j by omega] at this
            have HNX := Lib.hid hnext
            have HD := Lib.hid hd
            have HE := Lib.hid e1
            clear hnext hd e1 hb
            generalize lo.getD j 0 = x at *
            generalize lo.getD d 0 = y at *
            go_wp2
            have e1 := HE.out
            go_quiet (fail)
            clear e1
            go_wp2
            go_roundw
            case rel => exact ⟨j + 1, _, _, by omega, by omega, by go_num, rfl, by first | rfl | rw [World.drewN_drewN], HNX⟩
            case measure => simp [intOf]; omega
        · have hjn' : j = n := by omega
          subst hjn'
          have hper : perB lo p = b := by
            rw [Bool.eq_iff_iff, perB_iff hp1 (by rw [← HN.out]; omega), hb.out, ← HN.out, HR.out]
          have HPE := Lib.hid hper
          clear hper
          cases b
          · go_wp2
            go_roundw
            case rel => exact ⟨p + 1, m, by omega, by omega, by go_num, rfl, Lib.hid (fun q h1 h2 => by
              by_cases hqp : q < p
              · exact hq.out q h1 hqp
              · have : q = p := by omega
                subst this
                exact HPE.out)⟩
            case measure => simp [intOf]; omega
          · have hres : periodL lo = p := period_some hp1 (by rw [← HN.out]; exact hlt) HPE.out hq.out
            have HRES := Lib.hid hres
            clear hres
            go_wp2
            go_ret
            exact ⟨by rw [HRES.out]; rfl, m, rfl⟩
    · have hpn : ¬ ((p : Int) < (n : Int)) := by omega
      have hres : periodL lo = n := by
        rw [HN.out]
        exact period_none (fun q h1 h2 => hq.out q h1 (by rw [← HN.out] at h2; omega))
      have HRES := Lib.hid hres
      clear hres
      go_wp2
      go_ret
      exact ⟨by rw [HRES.out]; rfl, m, rfl⟩
end Go.Proofs.Ytkikkplpalabhaa
