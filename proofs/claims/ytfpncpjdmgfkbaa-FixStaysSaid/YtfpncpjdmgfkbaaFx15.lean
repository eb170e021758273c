/- The walk of fix: Is. -/
import Derived.Test.YtfpncpjdmgfkbaaFx14
import Derived.Test.YtfpncpjdmgfkbaaFixB
namespace Go.Proofs.Ytfpncpjdmgfkbaa
open Go.RowKit

/-- A struct of three cells and one of two, boxed: the world behind. -/
theorem boxed32 (w : World) (x0 x1 x2 y0 y1 : Value) (t u : Nat) : ∃ w0, w0 = (w.alloc (.cells #[x0, x1, x2] t)).alloc (.cells #[y0, y1] u) ∧ Below w.heap.size w w0 ∧ w0.heap.size = w.heap.size + 2 ∧
    (w0.cell? ⟨w.heap.size, 0, none⟩ = some x0 ∧ w0.cell? ⟨w.heap.size, 1, none⟩ = some x1 ∧ w0.cell? ⟨w.heap.size, 2, none⟩ = some x2) ∧ (w0.cell? ⟨w.heap.size + 1, 0, none⟩ = some y0 ∧ w0.cell? ⟨w.heap.size + 1, 1, none⟩ = some y1) := by
  obtain ⟨h1, h2, h3⟩ := heap_allocL [.cells #[x0, x1, x2] t, .cells #[y0, y1] u] w
  simp only [List.foldl_cons, List.foldl_nil] at h1 h2 h3
  have k1 := h1 1 (by simp)
  refine ⟨_, rfl, h2, h3, (blk3 (h1 0 (by simp))).1, ?_, ?_⟩
  · rw [cell_of_row _ _ _ _ _ _ k1]; rfl
  · rw [cell_of_row _ _ _ _ _ _ k1]; rfl
theorem icells_at {l : List Int} {k : Nat} (h : k < l.length) : (icells l)[k]? = some (.int .i64 l[k]) := by simp [icells, h]

section
variable (ai ae al : Option Addr) (ni ci ne ce nl cl : Nat)
set_option maxHeartbeats 4000000 in
set_option maxRecDepth 100000 in
theorem fis_any (G : Gph) (sets : List (List Bool)) (stem loop : List Int) (As : Option Addr) (ns cs : Nat) (s1 s2 : Option Addr) (n1 c1 n2 c2 : Nat) (w : World) (B : Nat) (h : GrRd w B ai ni ci ae ne ce al nl cl G) (hs : Sl2 w B 1 As ns cs (sets.map bcells)) (hs1 : Sl w B 1 s1 n1 c1 (icells stem)) (hs2 : Sl w B 1 s2 n2 c2 (icells loop)) (hB : B ≤ w.heap.size) (hi : ni ≤ 1000000000) (he : ne ≤ 1000000000) (hr : ∀ l ∈ G.edges, l.length ≤ 1000000000) (hns : ns ≤ 1000000) (hn1 : n1 ≤ 1000000000) (hn2 : n2 ≤ 1000000000) :
    Calls Try.prog 42 #[.agg #[.slice ai ni ci, .slice ae ne ce, .slice al nl cl], .slice As ns cs, .agg #[.slice s1 n1 c1, .slice s2 n2 c2]] w (Tru w (isB ne G.edges G.init sets stem loop)) := by
  obtain ⟨w0, hw0, hb0, hz0, ⟨hx0, hx1, hx2⟩, ⟨hy0, hy1⟩⟩ := boxed32 w (.slice ai ni ci) (.slice ae ne ce) (.slice al nl cl) (.slice s1 n1 c1) (.slice s2 n2 c2) 26 51
  have HW0 := Lib.hid hw0
  have h' := h.below hb0 hB
  have hs' := hs.below hb0 hB
  have hs1' := hs1.below hb0 hB
  have hs2' := hs2.below hb0 hB
  have hzl : w.heap.size < w0.heap.size := by omega
  have hzr : w.heap.size + 1 < w0.heap.size := by omega
  have hB0 : B ≤ w0.heap.size := by omega
  have HSN : Hid (ns = sets.length) := Lib.hid (by have := hs.len; simpa using this)
  have HN1 : Hid (n1 = stem.length) := Lib.hid (by have := hs1.len; simpa [icells] using this.symm)
  have HN2 : Hid (n2 = loop.length) := Lib.hid (by have := hs2.len; simpa [icells] using this.symm)
  have HLI := Lib.hid h.lens.1
  have HX := Lib.hid (And.intro hx0 (And.intro hx1 hx2))
  clear hw0 h hs hs1 hs2 hz0
  by_cases hl0 : n2 = 0
  · have hle : loop = [] := List.eq_nil_of_length_eq_zero (by rw [← HN2.out]; exact hl0)
    have HF : Hid (isB ne G.edges G.init sets stem loop = false) := Lib.hid (by rw [hle]; rfl)
    have hd : ((n2 : Int) == 0) = true := by simp [hl0]
    clear hle hl0
    go_enter Try.func42, Try.ntmps42
    go_wp2
    rw [← HW0.out]
    go_wp2
    go_ret
    exact ⟨ret_bool (by simp [HF.out]), hb0⟩
  · have hd : ((n2 : Int) == 0) = false := by simpa using hl0
    have hlne : loop ≠ [] := fun e => hl0 (by rw [HN2.out, e]; rfl)
    have HLN := Lib.hid hlne
    clear hlne
    go_enter Try.func42, Try.ntmps42
    go_wp2_with fail
    rw [← HW0.out]
    refine wp_region_held_drew (S := fun w' => w'.cell? ⟨w.heap.size + 1, 0, none⟩ = some (.slice s1 n1 c1) ∧ w'.cell? ⟨w.heap.size + 1, 1, none⟩ = some (.slice s2 n2 c2)) (by kernel_rfl) ⟨hy0, hy1⟩ (fun hS => ?_)
    refine wpAnyH_takeD (i := 0) (v := ?_) rfl (by kernel_rfl) (by kernel_rfl) (by kernel_rfl) (fun _ _ _ h => h) (Or.inl ⟨by kernel_rfl, ?_⟩) hS ?_
    rotate_left 1
    · (intro w' hSw; (try dsimp only at hSw); go_simp; try (with_reducible rfl))
    try simp only [Act.put, List.setIfInBounds_toArray, List.set_cons_zero, List.set_cons_succ]
    refine wpAnyH_takeD (i := 1) (v := ?_) rfl (by kernel_rfl) (by kernel_rfl) (by kernel_rfl) (fun _ _ _ h => h) (Or.inl ⟨by kernel_rfl, ?_⟩) hS ?_
    rotate_left 1
    · (intro w' hSw; (try dsimp only at hSw); go_simp; try (with_reducible rfl))
    try simp only [Act.put, List.setIfInBounds_toArray, List.set_cons_zero, List.set_cons_succ]
    refine wpAnyH_takeD (i := 3) (v := ?_) rfl (by kernel_rfl) (by kernel_rfl) (by kernel_rfl) (fun _ _ _ h => h) (Or.inl ⟨by kernel_rfl, ?_⟩) hS ?_
    rotate_left 1
    · (intro w' hSw; (try dsimp only at hSw); go_simp; try (with_reducible rfl))
    try simp only [Act.put, List.setIfInBounds_toArray, List.set_cons_zero, List.set_cons_succ]
    refine wpAnyH_takeD (i := 4) (v := ?_) rfl (by kernel_rfl) (by kernel_rfl) (by kernel_rfl) (fun _ _ _ h => h) (Or.inl ⟨by kernel_rfl, ?_⟩) hS ?_
    rotate_left 1
    · (intro w' hSw; (try dsimp only at hSw); go_simp; try (with_reducible rfl))
    try simp only [Act.put, List.setIfInBounds_toArray, List.set_cons_zero, List.set_cons_succ]
    refine wpAnyH_oneD (i := 2) rfl (by kernel_rfl) (fun K hK => ?_)
    refine step_extend rfl (.const (.slice none 0 0)) (.tmp 24) 22 rfl w0.heap.size 3 1 8 sliceInt (.slice none 0 0) 0 [] (World.ownsRow_nil _ _ _ _) (by rfl) B s1 n1 c1 (icells stem) (by rfl) (hs1'.below (Below.drew (Below.refl _ _)) hB0) (fun u hu => by obtain ⟨_, _, rfl⟩ := List.mem_map.1 hu; rfl) (by omega) (by omega) (Nat.le_refl _) ?_
    intro v1 wa hOa hta _ _
    have hba : Below w0.heap.size w0 wa := (Below.drew (Below.refl _ _)).trans (hta.below (Nat.le_refl _) (fun k hk e => by simp [Value.ownBlock] at e))
    have hya0 := (hba.cell (p := ⟨w.heap.size + 1, 0, none⟩) hzr).trans hy0
    have hya1 := (hba.cell (p := ⟨w.heap.size + 1, 1, none⟩) hzr).trans hy1
    refine hK.out _ _ ⟨hya0, hya1⟩ (fun hS => ?_)
    clear hK
    try simp only [Act.put, List.setIfInBounds_toArray, List.set_cons_zero, List.set_cons_succ]
    refine wpAnyH_oneD (i := 5) rfl (by kernel_rfl) (fun K hK => ?_)
    refine step_extend rfl (.tmp 25) (.tmp 27) 22 rfl w0.heap.size 3 1 8 sliceInt v1 (0 + n1) ([] ++ icells stem) hOa (by rfl) B s2 n2 c2 (icells loop) (by rfl) (hs2'.below hba hB0) (fun u hu => by obtain ⟨_, _, rfl⟩ := List.mem_map.1 hu; rfl) (by omega) (by omega) hba.size ?_
    intro v2 w3 hO3 ht3 _ _
    have hb3 : Below w0.heap.size w0 w3 := hba.trans (ht3.below hba.size (fun k hk e => by have := (hOa.lt k e).1; omega))
    have hy30 := (hb3.cell (p := ⟨w.heap.size + 1, 0, none⟩) hzr).trans hy0
    have hy31 := (hb3.cell (p := ⟨w.heap.size + 1, 1, none⟩) hzr).trans hy1
    refine hK.out _ _ ⟨hy30, hy31⟩ (fun hS => ?_)
    clear hK
    try simp only [Act.put, List.setIfInBounds_toArray, List.set_cons_zero, List.set_cons_succ]
    refine wpAnyH_takeD (i := 6) (v := ?_) rfl (by kernel_rfl) (by kernel_rfl) (by kernel_rfl) (fun _ _ _ h => h) (Or.inl ⟨by kernel_rfl, ?_⟩) hS ?_
    rotate_left 1
    · (intro w' hSw; (try dsimp only at hSw); go_simp; try (with_reducible rfl))
    try simp only [Act.put, List.setIfInBounds_toArray, List.set_cons_zero, List.set_cons_succ]
    refine wpAnyH_done (by kernel_rfl) ?_ _
    simp only [Nat.zero_add, List.nil_append] at hO3
    rw [show icells stem ++ icells loop = icells (stem ++ loop) by simp [icells]] at hO3
    obtain ⟨A3, c3, rfl, hs3⟩ := own_sl hO3
    have hz3 := hb3.size
    have hLl : (stem ++ loop).length = n1 + n2 := by rw [List.length_append, HN1.out, HN2.out]
    have hB3 := hb0.trans (hb3.mono (by omega))
    have hisB : isB ne G.edges G.init sets stem loop = (begB G.init ((stem ++ loop).getD 0 0) && (chB ne G.edges ((stem ++ loop) ++ [loop.getD 0 0]) (n1 + n2) && sets.all (metB loop))) := by
      rw [isB, loop_W HLN.out, hLl]
      have : loop.isEmpty = false := by cases loop with | nil => exact absurd rfl HLN.out | cons a l => rfl
      rw [this]; rfl
    have HIS := Lib.hid hisB
    have HB3 := Lib.hid hB3
    generalize hLe : stem ++ loop = L at *
    obtain ⟨b3, o3, hA3, hb30, hc30⟩ := hs3.rd.at_ (j := 0) (icells_at (l := L) (k := 0) (by omega))
    subst hA3
    have ha0 : L[0]'(by omega) = L.getD 0 0 := by simp [List.getD, show 0 < L.length by omega]
    rw [ha0] at hc30
    have hl0c : (loop[0]'(by rw [← HN2.out]; omega)) = loop.getD 0 0 := by
      have : 0 < loop.length := by rw [← HN2.out]; omega
      simp [List.getD, this]
    obtain ⟨b2, o2, hA2, hb20, hc20⟩ := hs2'.rd.at_ (j := 0) (icells_at (l := loop) (k := 0) (by rw [← HN2.out]; omega))
    subst hA2
    rw [hl0c] at hc20
    generalize L.getD 0 0 = a0 at *
    generalize hl0e : loop.getD 0 0 = l0 at *
    have HLL := Lib.hid hLl
    have g0 := (hb3.cell (p := ⟨w.heap.size, 0, none⟩) hzl).trans HX.out.1
    have hi3 := h'.hi.below hb3 hB0
    have hnp : 0 < n1 + n2 := by omega
    rw [Nat.add_zero] at hc30 hc20
    clear hLe ha0 hl0c hl0e hLl hisB hO3 hOa hta ht3 hba hya0 hya1 hB3 hx0 hx1 hx2
    go_wp2
    go_loopw [8, 32] (fun f i wr => ∃ k : Nat, k ≤ ni ∧ i = .int .i64 k ∧ f = .bool (begB (G.init.take k) a0) ∧ wr = w3) (fun _ i _ => ni - (intOf i).toNat)
    case atStart => exact ⟨0, by omega, rfl, rfl, rfl⟩
    case round =>
      obtain ⟨k, hk, rfl, rfl, rfl⟩ := hrel
      by_cases hlt : k < ni
      · have hkx : k < G.init.length := by rw [← HLI.out]; exact hlt
        obtain ⟨b, o, hA, _, hc⟩ := hi3.rd.at_ (icells_at hkx)
        subst hA
        have hs := begB_succ hkx a0
        generalize begB (G.init.take k) a0 = acc at *
        generalize G.init[k] = x at *
        have HS := Lib.hid hs
        clear hs
        cases acc
        · go_wp2
          go_roundw
          case rel => exact ⟨k + 1, by omega, by go_num, by rw [HS.out, Bool.false_or], by trivial⟩
          case measure => simp [intOf]; omega
        · go_wp2
          go_roundw
          case rel => exact ⟨k + 1, by omega, by go_num, by rw [HS.out, Bool.true_or], by trivial⟩
          case measure => simp [intOf]; omega
      · have hkn : begB (G.init.take k) a0 = begB G.init a0 := by rw [List.take_of_length_le (by rw [← HLI.out]; omega)]
        rw [hkn]
        clear hkn g0
        cases hbg : begB G.init a0
        · have HBG := Lib.hid hbg
          clear hbg
          go_wp2
          go_ret
          exact ⟨ret_bool (by simp [HIS.out, HBG.out]), HB3.out⟩
        · have HBG := Lib.hid hbg
          clear hbg
          go_wp2
          obtain ⟨wx, rfl⟩ : ∃ wx : World, wx = wr := ⟨_, rfl⟩
          go_loopw [49] (fun i wr => ∃ k : Nat, k ≤ n1 + n2 ∧ i = .int .i64 k ∧ Below wx.heap.size wx wr ∧ Hid (chB ne G.edges (L ++ [l0]) k = true)) (fun i _ => n1 + n2 - (intOf i).toNat)
          case atStart => exact ⟨0, by omega, rfl, Below.refl _ _, Lib.hid rfl⟩
          case round =>
            obtain ⟨k, hk, rfl, hbx, hch⟩ := hrel
            have hbx0 : Below w0.heap.size w0 wr := hb3.trans (hbx.mono hz3)
            have hszx := hbx.size
            have e0 := (hbx0.cell (p := ⟨w.heap.size, 0, none⟩) hzl).trans HX.out.1
            have e1 := (hbx0.cell (p := ⟨w.heap.size, 1, none⟩) hzl).trans HX.out.2.1
            have e2 := (hbx0.cell (p := ⟨w.heap.size, 2, none⟩) hzl).trans HX.out.2.2
            have f1 := (hbx0.cell (p := ⟨w.heap.size + 1, 1, none⟩) hzr).trans hy1
            have hcl := (hbx0.cell (p := ⟨b2, o2, none⟩) (show b2 < w0.heap.size by omega)).trans hc20
            have HBX := Lib.hid hbx
            have HBW := Lib.hid (HB3.out.trans (hbx.mono (by have := HB3.out.size; omega)))
            by_cases hlt : k < n1 + n2
            · have hkL : k < L.length := by rw [HLL.out]; exact hlt
              obtain ⟨b3', o3', hA3', _, hck⟩ := (hs3.rd.below hbx (Nat.le_refl _)).at_ (icells_at hkL)
              cases hA3'
              have hW0 : (L ++ [l0]).getD k 0 = L[k] := W_at hkL
              have hsc := chB_succ ne G.edges (L ++ [l0]) k
              have hno := chB_not (n := ne) (E := G.edges) (W := L ++ [l0]) (k := k) (m := n1 + n2) hlt
              rw [hW0] at hsc hno
              have hnext : ∃ t, (L ++ [l0]).getD (k + 1) 0 = t ∧ ((k + 1 < n1 + n2 ∧ wr.cell? ⟨b3, o3 + (k + 1), none⟩ = some (.int .i64 t)) ∨ (¬ k + 1 < n1 + n2 ∧ t = l0)) := by
                by_cases h1 : k + 1 < n1 + n2
                · have hk1 : k + 1 < L.length := by rw [HLL.out]; exact h1
                  obtain ⟨b3', o3', hA3', _, hck1⟩ := (hs3.rd.below hbx (Nat.le_refl _)).at_ (icells_at hk1)
                  cases hA3'
                  exact ⟨L[k + 1], W_at hk1, .inl ⟨h1, hck1⟩⟩
                · exact ⟨l0, W_end (by rw [HLL.out]; omega), .inr ⟨h1, rfl⟩⟩
              obtain ⟨t, hWt, hnx⟩ := hnext
              rw [hWt] at hsc hno
              have hld := fun W hW => leads_any ai ae al ni ci ne ce nl cl G L[k] t W B hW
              have hh := h'.below hbx0 hB0
              generalize L[k] = x at *
              have HLD := Lib.hid (leads_any ai ae al ni ci ne ce nl cl G x t wr B hh (by omega) he hr)
              have HSC := Lib.hid hsc
              have HNO := Lib.hid hno
              have hk1 : ((k : Int) + 1) = ((k + 1 : Nat) : Int) := by omega
              have i0 : (0 : Int) ≤ (k : Int) + 1 := by omega
              clear hsc hno hW0 hWt hbx hh hld hk1
              rcases hnx with ⟨h1, hcn⟩ | ⟨h1, rfl⟩
              · have h1' : (k : Int) + 1 < ((n1 + n2 : Nat) : Int) := by omega
                cases hlb : leadB ne G.edges x t
                · have HLB := Lib.hid hlb
                  clear hlb
                  go_wp2_with fail
                  refine HLD.out.mono ?_
                  rw [show (isNd ne x && (isNd ne t && edgeB (G.edges.getD x.toNat []) t)) = leadB ne G.edges x t from rfl, HLB.out]
                  rintro e w4 ⟨rfl, hb4⟩
                  have HB4 := Lib.hid (HBW.out.trans (hb4.mono HBW.out.size))
                  go_wp2
                  go_ret
                  exact ⟨ret_bool (by simp [HIS.out, HBG.out, HNO.out HLB.out]), HB4.out⟩
                · have HLB := Lib.hid hlb
                  clear hlb
                  go_wp2_with fail
                  refine HLD.out.mono ?_
                  rw [show (isNd ne x && (isNd ne t && edgeB (G.edges.getD x.toNat []) t)) = leadB ne G.edges x t from rfl, HLB.out]
                  rintro e w4 ⟨rfl, hb4⟩
                  have HB4 := Lib.hid (HBX.out.trans (hb4.mono HBX.out.size))
                  go_wp2
                  go_roundw
                  case rel => exact ⟨k + 1, by omega, by go_num, HB4.out, Lib.hid (by rw [HSC.out, hch.out, HLB.out]; rfl)⟩
                  case measure => simp [intOf]; omega
              · have h1' : ¬ (k : Int) + 1 < ((n1 + n2 : Nat) : Int) := by omega
                cases hlb : leadB ne G.edges x t
                · have HLB := Lib.hid hlb
                  clear hlb
                  go_wp2_with fail
                  refine HLD.out.mono ?_
                  rw [show (isNd ne x && (isNd ne t && edgeB (G.edges.getD x.toNat []) t)) = leadB ne G.edges x t from rfl, HLB.out]
                  rintro e w4 ⟨rfl, hb4⟩
                  have HB4 := Lib.hid (HBW.out.trans (hb4.mono HBW.out.size))
                  go_wp2
                  go_ret
                  exact ⟨ret_bool (by simp [HIS.out, HBG.out, HNO.out HLB.out]), HB4.out⟩
                · have HLB := Lib.hid hlb
                  clear hlb
                  go_wp2_with fail
                  refine HLD.out.mono ?_
                  rw [show (isNd ne x && (isNd ne t && edgeB (G.edges.getD x.toNat []) t)) = leadB ne G.edges x t from rfl, HLB.out]
                  rintro e w4 ⟨rfl, hb4⟩
                  have HB4 := Lib.hid (HBX.out.trans (hb4.mono HBX.out.size))
                  go_wp2
                  go_roundw
                  case rel => exact ⟨k + 1, by omega, by go_num, HB4.out, Lib.hid (by rw [HSC.out, hch.out, HLB.out]; rfl)⟩
                  case measure => simp [intOf]; omega
            · have hkn : k = n1 + n2 := by omega
              have HCH : Hid (chB ne G.edges (L ++ [l0]) (n1 + n2) = true) := Lib.hid (by rw [← hkn]; exact hch.out)
              clear hkn e0 e1 e2 f1 hcl hbx hch
              obtain ⟨wy, rfl⟩ : ∃ wy : World, wy = wr := ⟨_, rfl⟩
              have hszy := hbx0.size
              go_wp2
              go_loopw [76] (fun i wr => ∃ k : Nat, k ≤ ns ∧ i = .int .i64 k ∧ Below wy.heap.size wy wr ∧ Hid ((sets.take k).all (metB loop) = true)) (fun i _ => ns - (intOf i).toNat)
              case atStart => exact ⟨0, by omega, rfl, Below.refl _ _, Lib.hid rfl⟩
              case round =>
                obtain ⟨k, hk, rfl, hbz, hal⟩ := hrel
                obtain ⟨wz, rfl⟩ : ∃ wz : World, wz = wr := ⟨_, rfl⟩
                have hbz0 : Below w0.heap.size w0 wz := hbx0.trans (hbz.mono hszy)
                have hszz := hbz0.size
                have f1 := (hbz0.cell (p := ⟨w.heap.size + 1, 1, none⟩) hzr).trans hy1
                have HBZ := Lib.hid (HBW.out.trans (hbz.mono HBW.out.size))
                by_cases hlt : k < ns
                · have hkS : k < sets.length := by rw [← HSN.out]; exact hlt
                  obtain ⟨b, o, A', n', c', hAe, hbb, hc0, hrow⟩ := hs'.at_ (j := k) (ys := bcells sets[k]) (by simp [hkS])
                  subst hAe
                  have hc := (hbz0.cell (p := ⟨b, o + k, none⟩) (show b < w0.heap.size by omega)).trans hc0
                  have hn' : n' = sets[k].length := by have := hrow.len; simpa [bcells] using this.symm
                  have hsa : (sets.take (k + 1)).all (metB loop) = ((sets.take k).all (metB loop) && metB loop sets[k]) := by rw [take_snoc sets k hkS, List.all_append]; simp
                  have hso : metB loop sets[k] = false → sets.all (metB loop) = false := fun h => List.all_eq_false.2 ⟨_, List.getElem_mem hkS, by rw [h]; decide⟩
                  generalize sets[k] = s at *
                  have HSA := Lib.hid hsa
                  have HSO := Lib.hid hso
                  have HNN := Lib.hid hn'
                  have HBz := Lib.hid hbz
                  clear hsa hso hn' hbz hc0
                  go_wp2
                  go_loopw [16, 83] (fun f i wr => ∃ m : Nat, m ≤ n2 ∧ i = .int .i64 m ∧ f = .bool (metB (loop.take m) s) ∧ Below wz.heap.size wz wr) (fun _ i _ => n2 - (intOf i).toNat)
                  case atStart => exact ⟨0, by omega, rfl, rfl, Below.refl _ _⟩
                  case round =>
                    obtain ⟨m, hm, rfl, rfl, hbv⟩ := hrel
                    have hbv0 : Below w0.heap.size w0 wr := hbz0.trans (hbv.mono hszz)
                    have hszv := hbv0.size
                    by_cases hltm : m < n2
                    · have hml : m < loop.length := by rw [← HN2.out]; exact hltm
                      obtain ⟨b2', o2', hA2', _, hcm⟩ := (hs2'.rd.below hbv0 hB0).at_ (icells_at hml)
                      cases hA2'
                      have hms := metB_succ hml s
                      have HHA := Lib.hid (has_any A' n' c' s loop[m] wr B HNN.out (hrow.below hbv0 hB0) (by omega))
                      generalize metB (loop.take m) s = acc at *
                      generalize loop[m] = x at *
                      have HMS := Lib.hid hms
                      have HBV := Lib.hid hbv
                      clear hms hbv
                      cases acc
                      · go_wp2_with fail
                        refine HHA.out.mono ?_
                        rintro e w5 ⟨rfl, hb5⟩
                        have HB5 := Lib.hid (HBV.out.trans (hb5.mono HBV.out.size))
                        go_wp2
                        go_roundw
                        case rel => exact ⟨m + 1, by omega, by go_num, by rw [HMS.out, Bool.false_or], HB5.out⟩
                        case measure => simp [intOf]; omega
                      · go_wp2
                        go_roundw
                        case rel => exact ⟨m + 1, by omega, by go_num, by rw [HMS.out, Bool.true_or], HBV.out⟩
                        case measure => simp [intOf]; omega
                    · have hmn : metB (loop.take m) s = metB loop s := by rw [List.take_of_length_le (by rw [← HN2.out]; omega)]
                      rw [hmn]
                      have HBV := Lib.hid (HBz.out.trans (hbv.mono HBz.out.size))
                      have HBV2 := Lib.hid (HBZ.out.trans (hbv.mono HBZ.out.size))
                      clear hmn hbv f1 hc
                      cases hmt : metB loop s
                      · have HMT := Lib.hid hmt
                        clear hmt
                        go_wp2
                        go_ret
                        exact ⟨ret_bool (by simp [HIS.out, HBG.out, HSO.out HMT.out]), HBV2.out⟩
                      · have HMT := Lib.hid hmt
                        clear hmt
                        go_wp2
                        go_roundw
                        case rel => exact ⟨k + 1, by omega, by go_num, HBV.out, Lib.hid (by rw [HSA.out, hal.out, HMT.out]; rfl)⟩
                        case measure => simp [intOf]; omega
                · have hkn : k = ns := by omega
                  have HAL : Hid (sets.all (metB loop) = true) := Lib.hid (by have := hal.out; rwa [List.take_of_length_le (by rw [← HSN.out]; omega)] at this)
                  clear hkn f1 hal
                  go_wp2
                  go_ret
                  exact ⟨ret_bool (by simp [HIS.out, HBG.out, HCH.out, HAL.out]), HBZ.out⟩
end
end Go.Proofs.Ytfpncpjdmgfkbaa
