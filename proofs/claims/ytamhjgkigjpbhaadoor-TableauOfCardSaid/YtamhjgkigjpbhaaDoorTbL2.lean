/- TableauReached. -/
import Derived.Test.YtamhjgkigjpbhaaDoorMo
import Derived.Test.YtamhjgkigjpbhaaDoorTbZ
import Derived.Test.YtamhjgkigjpbhaaDoorAr1
import Derived.Test.YtamhjgkigjpbhaaDoorR23c
import Derived.Test.YtamhjgkigjpbhaaDoorMe
namespace Go.Proofs.YtamhjgkigjpbhaaDoor
open Go.RowKit Go.Maps

theorem tab_node {f : List Nd} {L : List Cov} {rows : List (List Nat)} {init : List Nat} {k : Nat} {x : ANd} (h : (tabA f L rows init).nodes[k]? = some x) :
    ∃ c, L[k]? = some c ∧ x = ⟨c.1, c.2.1, meetsN f (natI (onL c.2.2.2)), natI (rows.getD k [])⟩ := by
  have hkl : k < L.length := by have := (List.getElem?_eq_some_iff.1 h).1; rwa [tabA_len] at this
  have hc : L[k]? = some L[k] := List.getElem?_eq_getElem hkl
  refine ⟨_, hc, ?_⟩
  have := tabA_at (f := f) (rows := rows) (init := init) hc
  unfold Aut.at at this
  rw [List.getD_eq_getElem?_getD, h] at this
  exact this
/-- What tableau.Of answers, where all is well. -/
theorem of_good {f : List Nd} (h : ofE f = 0) : ∃ L rows, isN f = true ∧ (untils f).length ≤ 16 ∧ tabL f = some (L, rows) ∧ ofA f = tabA f L rows (List.range (firstL f).length) := by
  have h0 := h
  unfold ofE at h
  split at h
  · cases h
  · next hN =>
    split at h
    · cases h
    · split at h
      · cases h
      · next h16 =>
        cases ht : tabL f with
        | none => rw [ht] at h; cases h
        | some p =>
          obtain ⟨L, rows⟩ := p
          refine ⟨L, rows, by simpa using hN, by omega, rfl, ?_⟩
          unfold ofA
          rw [if_pos h0, ht]
theorem ofA_bad {f : List Nd} (h : ofE f ≠ 0) : ofA f = ⟨0, [], []⟩ := by unfold ofA; rw [if_neg h]
theorem utl_untils {f : List Nd} (h : isN f = true) : untils f = utl 0 f := by unfold untils; rw [if_pos (isN_good h)]
theorem chk_tab {f : List Nd} {L : List Cov} {rows : List (List Nat)} (hN : isN f = true) (h16 : (untils f).length ≤ 16) (ht : tabL f = some (L, rows)) : chkA (tabA f L rows (List.range (firstL f).length)) = 0 := by
  have hT := tab_ok hN (isN_pos hN) ht
  have hu := utl_untils hN
  refine chkA_zero (by rw [tabA_len]; exact (tab_scan ht).2) ?_ (tabA_ok hT) (fun x hx => ?_)
  · show (0 : Int) ≤ ((utl 0 f).length : Int) ∧ ((utl 0 f).length : Int) ≤ 16
    rw [← hu]; omega
  · obtain ⟨k, hk, rfl⟩ := List.mem_iff_getElem.1 hx
    obtain ⟨c, _, hxe⟩ := tab_node (List.getElem?_eq_getElem hk)
    rw [hxe]
    show meetsN f _ < 2 ^ ((utl 0 f).length : Int).toNat
    simpa using meets_lt f _
theorem and_zero {x y : Nat} (hx : x < 2 ^ 64) (hy : y < 2 ^ 64) (h : x &&& y = 0) : bits .and .u64 (x : Int) (y : Int) = 0 := by
  have : bits .and .u64 (x : Int) (y : Int) = ((x &&& y : Nat) : Int) := by
    have hand : x &&& y < 2 ^ 64 := Nat.lt_of_le_of_lt Nat.and_le_left hx
    show IntKind.u64.wrap ((BitVec.ofInt 64 (x : Int) &&& BitVec.ofInt 64 (y : Int)).toNat : Int) = _
    rw [BitVec.toNat_and, BitVec.ofInt_natCast, BitVec.toNat_ofNat, BitVec.ofInt_natCast, BitVec.toNat_ofNat, Nat.mod_eq_of_lt hx, Nat.mod_eq_of_lt hy, IntKind.wrap_u64]
    omega
  rw [this, h]; rfl
set_option maxHeartbeats 8000000 in
set_option maxRecDepth 100000 in
theorem TableauReached_any (A : Option Addr) (c : Nat) (f : List Nd) (w : World) (hf : Sl w w.heap.size 2 A f.length c (ncells f)) (hT : TzTab w) (_hl : f.length ≤ 8796093022208) :
    Calls Tryd.prog 5 #[.slice A f.length c] w (Tru w true) := by
  have HW := Lib.hid (fun (w' : World) (hb : Below w.heap.size w w') => works29_any w' (tz_below hT hb))
  have HT := Lib.hid hT
  have HF := Lib.hid hf
  clear hT hf
  by_cases h13 : 13 < f.length
  · have g13 : (13 : Int) < (f.length : Int) := by omega
    go_enter Tryd.func5, Tryd.ntmps5
    go_wp2_with fail
    refine Calls.mono (HW.out w (Below.refl _ _)) ?_
    rintro e w1 ⟨rfl, hb1⟩
    go_wp2_with fail
    go_ret
    exact ⟨rfl, hb1⟩
  · have g13 : ¬ (13 : Int) < (f.length : Int) := by omega
    have HO := Lib.hid (tabOf_any A c f w HF.out HT.out (by omega) (fun _ _ _ => by omega))
    by_cases hE : ofE f = 0
    · obtain ⟨L, rows, hN, h16, htab, hA⟩ := of_good hE
      rw [hE, hA] at HO
      have hchk := chk_tab hN h16 htab
      have hTok := tab_ok hN (isN_pos hN) htab
      obtain ⟨hsc, h256⟩ := tab_scan htab
      have hu := utl_untils hN
      have hcov : ∀ x ∈ L, x.1 &&& x.2.1 = 0 ∧ x.1 < 256 ∧ x.2.1 < 256 := fun x hx => by
        obtain ⟨ps, hp1, hp2⟩ := hTok.cov x hx
        have hok := (cov_facts hN (by omega) hp1).2.1 x hp2
        exact ⟨((coversL_rises (kidsOk_of hN) hp1).2 x hp2).1, hok.txt.need, hok.txt.ban⟩
      have hrl := hTok.len
      have HU := Lib.hid (fun (w' : World) (hb : Below w.heap.size w w') => UntilsR_any A c f w' w.heap.size (HF.out.below hb (Nat.le_refl _)) hb.size (by omega))
      rw [hu] at HU
      obtain ⟨N, hNe⟩ : ∃ N, (utl 0 f).length = N := ⟨_, rfl⟩
      rw [hNe] at HU
      have hN16 : N ≤ 16 := by rw [← hNe, ← hu]; exact h16
      obtain ⟨m0, hm0⟩ : ∃ m0, (firstL f).length = m0 := ⟨_, rfl⟩
      rw [hm0] at hsc HO hchk
      have HSC := Lib.hid hsc
      have HTOK := Lib.hid hTok
      have HCK := Lib.hid hchk
      have HCV := Lib.hid hcov
      have HNE := Lib.hid hNe
      have HRL := Lib.hid hrl
      have hset : (tabA f L rows (List.range m0)).sets = (N : Int) := by show ((utl 0 f).length : Int) = _; rw [hNe]
      have HSET := Lib.hid hset
      obtain ⟨a, hae⟩ : ∃ a, tabA f L rows (List.range m0) = a := ⟨_, rfl⟩
      rw [hae] at HO HCK HSET
      have HAE := Lib.hid hae
      clear hA hchk hTok hsc hu hcov hrl hNe hset hae hE h16 htab hm0
      go_enter Tryd.func5, Tryd.ntmps5
      go_wp2_with fail
      refine Calls.mono HO.out ?_
      rintro e w1 ⟨Ai, ni, ci, An, nn, cn, rfl, hrd, hb1⟩
      rw [HSET.out]
      have hb2 : Below w1.heap.size w1 (w1.alloc (.cells #[.int .i64 (N : Int), .slice Ai ni ci, .slice An nn cn] 28)) := (Below.refl _ _).alloc (Nat.le_refl _) _
      have hx2 := heap_alloc_new w1 (.cells #[.int .i64 (N : Int), .slice Ai ni ci, .slice An nn cn] 28)
      have hz2 : (w1.alloc (.cells #[.int .i64 (N : Int), .slice Ai ni ci, .slice An nn cn] 28)).heap.size = w1.heap.size + 1 := by simp
      obtain ⟨W2, hW2⟩ : ∃ W2, w1.alloc (.cells #[.int .i64 (N : Int), .slice Ai ni ci, .slice An nn cn] 28) = W2 := ⟨_, rfl⟩
      rw [hW2] at hb2 hx2 hz2
      have HW2 := Lib.hid hW2
      have HRD := Lib.hid hrd
      clear hW2 hrd
      go_wp2_with fail
      rw [HW2.out]
      have hb12 : Below w.heap.size w W2 := hb1.trans (hb2.mono hb1.size)
      have hbd : Below W2.heap.size W2 W2.drew := Below.drew (Below.refl _ _)
      obtain ⟨wd, hwd⟩ : ∃ wd, W2.drew = wd := ⟨_, rfl⟩
      rw [hwd] at hbd
      have HWD := Lib.hid hwd
      have HR2 := Lib.hid (HRD.out.below hb2 (Nat.le_refl _))
      have HC := chkR_any a Ai ni ci An nn cn wd w1.heap.size (HR2.out.below hbd (by omega)) (by have := hbd.size; omega)
      rw [HCK.out, HSET.out] at HC
      have HC := Lib.hid HC
      clear hwd
      refine wp_region_held_drew (S := fun w' => w'.cell? ⟨w1.heap.size, 0, none⟩ = some (.int .i64 (N : Int)) ∧ w'.cell? ⟨w1.heap.size, 1, none⟩ = some (.slice Ai ni ci) ∧ w'.cell? ⟨w1.heap.size, 2, none⟩ = some (.slice An nn cn)) (by kernel_rfl) ⟨(box3A hx2).1, (box3A hx2).2⟩ (fun hS => ?_)
      refine wpAnyH_takeD (i := 0) (v := ?_) rfl (by kernel_rfl) (by kernel_rfl) (by kernel_rfl) (fun _ _ _ h => h) (Or.inl ⟨by kernel_rfl, ?_⟩) hS ?_
      rotate_left 1
      · (intro w' hSw; (try dsimp only at hSw); go_simp; try (with_reducible rfl))
      try simp only [Act.put, List.setIfInBounds_toArray, List.set_cons_zero, List.set_cons_succ]
      refine wpAnyH_oneD (i := 1) rfl (by kernel_rfl) (fun K hK => ?_)
      go_simp
      rw [HWD.out]
      refine Calls.mono HC.out ?_
      rintro e w3 ⟨rfl, hb3'⟩
      have hb3 : Below W2.heap.size W2 w3 := hbd.trans (hb3'.mono hbd.size)
      clear hb3'
      have hx3 := (hb3.block w1.heap.size (by omega)).trans hx2
      dsimp only
      refine hK.out _ _ (box3A hx3) (fun hS => ?_)
      clear hK
      try simp only [Act.put, List.setIfInBounds_toArray, List.set_cons_zero, List.set_cons_succ]
      refine wpAnyH_takeD (i := 2) (v := ?_) rfl (by kernel_rfl) (by kernel_rfl) (by kernel_rfl) (fun _ _ _ h => h) (Or.inl ⟨by kernel_rfl, ?_⟩) hS ?_
      rotate_left 1
      · (intro w' hSw; (try dsimp only at hSw); go_simp; try (with_reducible rfl))
      try simp only [Act.put, List.setIfInBounds_toArray, List.set_cons_zero, List.set_cons_succ]
      refine wpAnyH_takeD (i := 3) (v := ?_) rfl (by kernel_rfl) (by kernel_rfl) (by kernel_rfl) (fun _ _ _ h => h) (Or.inl ⟨by kernel_rfl, ?_⟩) hS ?_
      rotate_left 1
      · (intro w' hSw; (try dsimp only at hSw); go_simp; try (with_reducible rfl))
      try simp only [Act.put, List.setIfInBounds_toArray, List.set_cons_zero, List.set_cons_succ]
      refine wpAnyH_takeD (i := 4) (v := ?_) rfl (by kernel_rfl) (by kernel_rfl) (by kernel_rfl) (fun _ _ _ h => h) (Or.inl ⟨by kernel_rfl, ?_⟩) hS ?_
      rotate_left 1
      · (intro w' hSw; (try dsimp only at hSw); go_simp; try (with_reducible rfl))
      try simp only [Act.put, List.setIfInBounds_toArray, List.set_cons_zero, List.set_cons_succ]
      refine wpAnyH_takeD (i := 5) (v := ?_) rfl (by kernel_rfl) (by kernel_rfl) (by kernel_rfl) (fun _ _ _ h => h) (Or.inl ⟨by kernel_rfl, ?_⟩) hS ?_
      rotate_left 1
      · (intro w' hSw; (try dsimp only at hSw); go_simp; try (with_reducible rfl))
      try simp only [Act.put, List.setIfInBounds_toArray, List.set_cons_zero, List.set_cons_succ]
      refine wpAnyH_takeD (i := 6) (v := ?_) rfl (by kernel_rfl) (by kernel_rfl) (by kernel_rfl) (fun _ _ _ h => h) (Or.inl ⟨by kernel_rfl, ?_⟩) hS ?_
      rotate_left 1
      · (intro w' hSw; (try dsimp only at hSw); go_simp; try (with_reducible rfl))
      try simp only [Act.put, List.setIfInBounds_toArray, List.set_cons_zero, List.set_cons_succ]
      refine wpAnyH_oneD (i := 7) rfl (by kernel_rfl) (fun K hK => ?_)
      go_simp
      refine Calls.mono (HU.out w3 (hb12.trans (hb3.mono hb12.size))) ?_
      rintro e w4 ⟨vu, rfl, hou, hb4', -⟩
      have hb4 : Below W2.heap.size W2 w4 := hb3.trans (hb4'.mono hb3.size)
      obtain ⟨Au, cu, rfl, -⟩ := own_sl hou
      clear hb4' hou
      have hx4 := (hb4.block w1.heap.size (by omega)).trans hx2
      dsimp only
      refine hK.out _ _ (box3A hx4) (fun hS => ?_)
      clear hK
      try simp only [Act.put, List.setIfInBounds_toArray, List.set_cons_zero, List.set_cons_succ]
      refine wpAnyH_takeD (i := 8) (v := ?_) rfl (by kernel_rfl) (by kernel_rfl) (by kernel_rfl) (fun _ _ _ h => h) (Or.inl ⟨by kernel_rfl, ?_⟩) hS ?_
      rotate_left 1
      · (intro w' hSw; (try dsimp only at hSw); go_simp; try (with_reducible rfl))
      try simp only [Act.put, List.setIfInBounds_toArray, List.set_cons_zero, List.set_cons_succ]
      refine wpAnyH_takeD (i := 9) (v := ?_) rfl (by kernel_rfl) (by kernel_rfl) (by kernel_rfl) (fun _ _ _ h => h) (Or.inl ⟨by kernel_rfl, ?_⟩) hS ?_
      rotate_left 1
      · (intro w' hSw; (try dsimp only at hSw); go_simp; try (with_reducible rfl))
      try simp only [Act.put, List.setIfInBounds_toArray, List.set_cons_zero, List.set_cons_succ]
      refine wpAnyH_takeD (i := 10) (v := ?_) rfl (by kernel_rfl) (by kernel_rfl) (by kernel_rfl) (fun _ _ _ h => h) (Or.inl ⟨by kernel_rfl, ?_⟩) hS ?_
      rotate_left 1
      · (intro w' hSw; (try dsimp only at hSw); go_simp; try (with_reducible rfl))
      try simp only [Act.put, List.setIfInBounds_toArray, List.set_cons_zero, List.set_cons_succ]
      refine wpAnyH_done (by kernel_rfl) ?_ _
      have HR4 := Lib.hid (HR2.out.below hb4 (by omega))
      obtain ⟨k0, k1, k2⟩ := box3A hx4
      clear HC hbd
      have eni : ni = m0 := by rw [HRD.out.eni, ← HAE.out]; simp [tabA, natI]
      have enn : nn = L.length := by rw [HRD.out.enn, ← HAE.out]; simp [tabA]
      have EINI : Hid (a.init = natI (List.range m0)) := Lib.hid (by rw [← HAE.out]; rfl)
      subst eni enn
      have hci := HR4.out.init.cap
      have hmi := HR4.out.init.max
      unfold maxLen at hmi
      have gmi : (ni : Int) ≤ 9223372036854775807 := by omega
      clear hci hmi
      go_wp2_with fail
      go_loopw [5, 6] (fun u v wr => ∃ i m : Nat, i ≤ ni ∧ u = .int .i64 i ∧ v = .int .i64 i ∧ wr = w4.drewN m) (fun _ v _ => ni - (intOf v).toNat)
      case atStart => exact ⟨0, 0, by omega, rfl, rfl, rfl⟩
      case round =>
        obtain ⟨i, m1, hi, rfl, rfl, rfl⟩ := hrel
        by_cases hlt : i < ni
        · have hlt' : (i : Int) < (ni : Int) := by omega
          have hi0 : (0 : Int) ≤ (i : Int) := by omega
          have hil : i < a.init.length := by rw [EINI.out]; simpa [natI] using hlt
          obtain ⟨b, o, rfl, hbl, hc⟩ := rd_intS HR4.out.init hil
          have hiv : a.init[i] = (i : Int) := by
            have : a.init[i]? = some (i : Int) := by rw [EINI.out]; simp [natI, hlt]
            rw [List.getElem?_eq_getElem hil] at this
            exact Option.some.inj this
          rw [hiv] at hc
          have wi : IntKind.i64.wrap ((i : Int) + 1) = i + 1 := by rw [IntKind.wrap_i64]; omega
          clear hiv
          go_wp2_with fail
          go_roundw
          case rel => exact ⟨i + 1, m1, Nat.succ_le_of_lt hlt, by go_num, by go_num, rfl⟩
          case measure => simp [intOf]; omega
        · have hin : i = ni := by omega
          subst hin
          have hini0 : nxA i (rows.take 0) = i := rfl
          go_wp2_with fail
          go_loopw [5, 7] (fun u v wr => ∃ (j m : Nat), j ≤ L.length ∧ u = .int .i64 (nxA i (rows.take j) : Nat) ∧ v = .int .i64 j ∧ wr = w4.drewN m) (fun _ v _ => L.length - (intOf v).toNat)
          case atStart => exact ⟨0, m1, by omega, by rw [hini0], rfl, rfl⟩
          case round =>
            obtain ⟨j, m, hj, rfl, rfl, rfl⟩ := hrel
            by_cases hjl : j < L.length
            · have hjl' : (j : Int) < (L.length : Int) := by omega
              have hj0 : (0 : Int) ≤ (j : Int) := by omega
              obtain ⟨b, o, x, At, ct, rfl, hbl, hxa, c0, c1, c2, c3, hst⟩ := rd_aut HR4.out hjl
              rw [← HAE.out] at hxa
              obtain ⟨cc, hcc, rfl⟩ := tab_node hxa
              obtain ⟨hand0, hn1, hn2⟩ := HCV.out cc (List.mem_of_getElem? hcc)
              have hand := and_zero (show cc.1 < 2 ^ 64 by omega) (show cc.2.1 < 2 ^ 64 by omega) hand0
              have hjr : j < rows.length := by rw [HRL.out]; exact hjl
              have hlt2 := HSC.out.lt j hjr
              have hle2 := HSC.out.le j
              obtain ⟨R, hR⟩ : ∃ R, rows.getD j [] = R := ⟨_, rfl⟩
              rw [hR] at c3 hst hle2
              have hnext : nxA i (rows.take (j + 1)) = nxR (nxA i (rows.take j)) R := by
                have hg : rows[j] = R := by rw [← hR]; simp [List.getD, hjr]
                rw [take_snoc rows j hjr, nxA_snoc, hg]
              have HNX := Lib.hid hnext
              have HLE := Lib.hid (fun k x hx => hle2 k x hjr hx)
              obtain ⟨q, hq⟩ : ∃ q, nxA i (rows.take j) = q := ⟨_, rfl⟩
              rw [hq] at hlt2 HLE HNX ⊢
              have dq : decide (q ≤ j) = false := by simp; omega
              have wj : IntKind.i64.wrap ((j : Int) + 1) = j + 1 := by rw [IntKind.wrap_i64]; omega
              have hRl : (natI R).length = R.length := by simp [natI]
              change w4.cell? _ = some (.slice At (natI R).length ct) at c3
              rw [hRl] at c3
              have hst' : Sl w4 w1.heap.size 1 At R.length ct (icells (natI R)) := by rw [← hRl]; exact hst
              have hct := hst'.cap
              have hmt := hst'.max
              unfold maxLen at hmt
              have gmt : (R.length : Int) ≤ 9223372036854775807 := by omega
              have HST := Lib.hid hst'
              have HY : Hid (∀ y ∈ R, y < 300) := Lib.hid (fun y hy => by
                obtain ⟨c', _, h'⟩ := HTOK.out.row_ok j cc hcc y (by rw [hR]; exact hy)
                have := (List.getElem?_eq_some_iff.1 h').1
                omega)
              change w4.cell? _ = some (.int .u64 (cc.1 : Int)) at c0
              change w4.cell? _ = some (.int .u64 (cc.2.1 : Int)) at c1
              clear hst hst' hct hmt hand0 hn1 hn2 hxa hnext hle2 hq hR hRl hcc hini0 c2 hlt2
              go_wp2_with fail
              go_quiet (fail)
              go_wp2_with fail
              go_loopw [5, 8] (fun u v wr => ∃ (k m : Nat), k ≤ R.length ∧ u = .int .i64 (nxR q (R.take k) : Nat) ∧ v = .int .i64 k ∧ wr = w4.drewN m) (fun _ v _ => R.length - (intOf v).toNat)
              case atStart => exact ⟨0, _, by omega, rfl, rfl, by first | rfl | rw [World.drewN_drewN]⟩
              case round =>
                obtain ⟨k, m2, hk, rfl, rfl, rfl⟩ := hrel
                by_cases hkl : k < R.length
                · have hkl' : (k : Int) < (R.length : Int) := by omega
                  have hk0 : (0 : Int) ≤ (k : Int) := by omega
                  obtain ⟨bt, ot, rfl, hbt, hct2⟩ := rd_intS HST.out (k := k) (by simpa [natI] using hkl)
                  have hxv : (natI R)[k]'(by simpa [natI] using hkl) = ((R[k] : Nat) : Int) := by simp [natI]
                  rw [hxv] at hct2
                  have hle := HLE.out k R[k] (List.getElem?_eq_getElem hkl)
                  have hsn : nxR q (R.take (k + 1)) = max (nxR q (R.take k)) (R[k] + 1) := by rw [take_snoc R k hkl, nxR_snoc]
                  have hmemR : R[k] ∈ R := List.getElem_mem hkl
                  generalize R[k] = y at *
                  obtain ⟨p, hp⟩ : ∃ p, nxR q (R.take k) = p := ⟨_, rfl⟩
                  rw [hp] at hle hsn ⊢
                  have HSN := Lib.hid hsn
                  have dle : decide (p < y) = false := by simp; omega
                  have hy : y < 300 := HY.out y hmemR
                  have wy : IntKind.i64.wrap ((y : Int) + 1) = y + 1 := by rw [IntKind.wrap_i64]; omega
                  have wk : IntKind.i64.wrap ((k : Int) + 1) = k + 1 := by rw [IntKind.wrap_i64]; omega
                  clear hsn hp hxv
                  by_cases hgt : p < y + 1
                  · have hmx : max p (y + 1) = y + 1 := by omega
                    have hgt' : (p : Int) < (y : Int) + 1 := by omega
                    have HMX := Lib.hid hmx
                    clear hmx
                    go_wp2_with fail
                    go_roundw
                    case rel => exact ⟨k + 1, _, by omega, by rw [HSN.out, HMX.out]; go_num, by go_num, rfl⟩
                    case measure => simp [intOf]; omega
                  · have hmx : max p (y + 1) = p := by omega
                    have hgt' : ¬ (p : Int) < (y : Int) + 1 := by omega
                    have HMX := Lib.hid hmx
                    clear hmx
                    go_wp2_with fail
                    go_roundw
                    case rel => exact ⟨k + 1, _, by omega, by rw [HSN.out, HMX.out]; congr 1; omega, by go_num, rfl⟩
                    case measure => simp [intOf]; omega
                · have hkn : k = R.length := by omega
                  subst hkn
                  rw [List.take_length, ← HNX.out]
                  go_wp2_with fail
                  go_roundw
                  case rel => exact ⟨j + 1, _, by omega, rfl, by go_num, rfl⟩
                  case measure => simp [intOf]; omega
            · have hjn : j = L.length := by omega
              subst hjn
              have hfin : nxA i (rows.take L.length) = L.length := by rw [← HRL.out, List.take_length, HSC.out.eq, HRL.out]
              rw [hfin]
              clear hfin
              go_wp2_with fail
              refine Calls.mono (HW.out _ (below_dd (hb12.trans (hb4.mono hb12.size)) m 0)) ?_
              rintro e w6 ⟨rfl, hb6⟩
              go_wp2_with fail
              go_ret
              exact ⟨rfl, (below_dd (hb12.trans (hb4.mono hb12.size)) m 0).trans (hb6.mono (by have := (below_dd (hb12.trans (hb4.mono hb12.size)) m 0).size; exact this))⟩
    · have HA := Lib.hid (ofA_bad hE)
      rw [HA.out] at HO
      obtain ⟨E, hEe⟩ : ∃ E, ofE f = E := ⟨_, rfl⟩
      rw [hEe] at HO hE
      have dE : (E != 0) = true := bne_iff_ne.2 hE
      clear hEe hE
      go_enter Tryd.func5, Tryd.ntmps5
      go_wp2_with fail
      refine Calls.mono HO.out ?_
      rintro e w1 ⟨Ai, ni, ci, An, nn, cn, rfl, hrd, hb1⟩
      have e1 := hrd.eni
      have e2 := hrd.enn
      change ni = 0 at e1
      change nn = 0 at e2
      subst e1 e2
      clear hrd
      rw [show ({ sets := 0, init := [], nodes := [] } : Aut).sets = 0 from rfl]
      have hb2 : Below w.heap.size w (w1.alloc (.cells #[.int .i64 0, .slice Ai 0 ci, .slice An 0 cn] 28)) := hb1.alloc hb1.size _
      have hx2 := heap_alloc_new w1 (.cells #[.int .i64 0, .slice Ai 0 ci, .slice An 0 cn] 28)
      go_wp2_with fail
      refine Calls.mono (HW.out _ hb2) ?_
      rintro e w3 ⟨rfl, hb3⟩
      go_wp2_with fail
      go_ret
      exact ⟨rfl, hb2.trans (hb3.mono hb2.size)⟩
end Go.Proofs.YtamhjgkigjpbhaaDoor
