/- The walk of fix's reference: Is. -/
import Derived.Test.YtfpncpjdmgfkbaaFx15
namespace Go.Proofs.Ytfpncpjdmgfkbaa
open Go.RowKit

section
variable (ai ae al : Option Addr) (ni ci ne ce nl cl : Nat)
set_option maxHeartbeats 4000000 in
set_option maxRecDepth 100000 in
theorem ris_any (G : Gph) (sets : List (List Bool)) (stem loop : List Int) (As : Option Addr) (ns cs : Nat) (s1 s2 : Option Addr) (n1 c1 n2 c2 : Nat) (w : World) (B : Nat) (h : GrRd w B ai ni ci ae ne ce al nl cl G) (hs : Sl2 w B 1 As ns cs (sets.map bcells)) (hs1 : Sl w B 1 s1 n1 c1 (icells stem)) (hs2 : Sl w B 1 s2 n2 c2 (icells loop)) (hB : B ≤ w.heap.size) (hi : ni ≤ 1000000000) (he : ne ≤ 1000000000) (hr : ∀ l ∈ G.edges, l.length ≤ 1000000000) (hns : ns ≤ 1000000) (hn1 : n1 ≤ 1000000000) (hn2 : n2 ≤ 1000000000) :
    Calls Try.prog 43 #[.agg #[.slice ai ni ci, .slice ae ne ce, .slice al nl cl], .slice As ns cs, .agg #[.slice s1 n1 c1, .slice s2 n2 c2]] w (Tru w (isB ne G.edges G.init sets stem loop)) := by
  obtain ⟨w0, hw0, hb0, hz0, ⟨hx0, hx1, hx2⟩, ⟨hy0, hy1⟩⟩ := boxed32 w (.slice ai ni ci) (.slice ae ne ce) (.slice al nl cl) (.slice s1 n1 c1) (.slice s2 n2 c2) 26 51
  have HW0 := Lib.hid hw0
  have h' := h.below hb0 hB
  have hs' := hs.below hb0 hB
  have hs1' := hs1.below hb0 hB
  have hs2' := hs2.below hb0 hB
  have hzl : w.heap.size < w0.heap.size := by omega
  have hzr : w.heap.size + 1 < w0.heap.size := by omega
  have hB0 : B ≤ w0.heap.size := by omega
  have HSN : Hid (ns = sets.length) := Lib.hid (by have := hs.len; simpa using this)
  have HN1 : Hid (n1 = stem.length) := Lib.hid (by have := hs1.len; simpa [icells] using this.symm)
  have HN2 : Hid (n2 = loop.length) := Lib.hid (by have := hs2.len; simpa [icells] using this.symm)
  have HLI := Lib.hid h.lens.1
  have HX := Lib.hid (And.intro hx0 (And.intro hx1 hx2))
  clear hw0 h hs hs1 hs2 hz0
  by_cases hl0 : n2 = 0
  · have hle : loop = [] := List.eq_nil_of_length_eq_zero (by rw [← HN2.out]; exact hl0)
    have HF : Hid (isB ne G.edges G.init sets stem loop = false) := Lib.hid (by rw [hle]; rfl)
    have hd : ((n2 : Int) == 0) = true := by simp [hl0]
    clear hle hl0
    go_enter Try.func43, Try.ntmps43
    go_wp2
    rw [← HW0.out]
    go_wp2
    go_ret
    exact ⟨ret_bool (by simp [HF.out]), hb0⟩
  · have hd : ((n2 : Int) == 0) = false := by simpa using hl0
    have hlne : loop ≠ [] := fun e => hl0 (by rw [HN2.out, e]; rfl)
    have HLN := Lib.hid hlne
    clear hlne
    go_enter Try.func43, Try.ntmps43
    go_wp2_with fail
    rw [← HW0.out]
    refine wp_region_held_drew (S := fun w' => w'.cell? ⟨w.heap.size + 1, 0, none⟩ = some (.slice s1 n1 c1) ∧ w'.cell? ⟨w.heap.size + 1, 1, none⟩ = some (.slice s2 n2 c2)) (by kernel_rfl) ⟨hy0, hy1⟩ (fun hS => ?_)
    refine wpAnyH_takeD (i := 1) (v := ?_) rfl (by kernel_rfl) (by kernel_rfl) (by kernel_rfl) (fun _ _ _ h => h) (Or.inl ⟨by kernel_rfl, ?_⟩) hS ?_
    rotate_left 1
    · (intro w' hSw; (try dsimp only at hSw); go_simp; try (with_reducible rfl))
    try simp only [Act.put, List.setIfInBounds_toArray, List.set_cons_zero, List.set_cons_succ]
    refine wpAnyH_takeD (i := 2) (v := ?_) rfl (by kernel_rfl) (by kernel_rfl) (by kernel_rfl) (fun _ _ _ h => h) (Or.inl ⟨by kernel_rfl, ?_⟩) hS ?_
    rotate_left 1
    · (intro w' hSw; (try dsimp only at hSw); go_simp; try (with_reducible rfl))
    try simp only [Act.put, List.setIfInBounds_toArray, List.set_cons_zero, List.set_cons_succ]
    refine wpAnyH_takeD (i := 4) (v := ?_) rfl (by kernel_rfl) (by kernel_rfl) (by kernel_rfl) (fun _ _ _ h => h) (Or.inl ⟨by kernel_rfl, ?_⟩) hS ?_
    rotate_left 1
    · (intro w' hSw; (try dsimp only at hSw); go_simp; try (with_reducible rfl))
    try simp only [Act.put, List.setIfInBounds_toArray, List.set_cons_zero, List.set_cons_succ]
    refine wpAnyH_takeD (i := 5) (v := ?_) rfl (by kernel_rfl) (by kernel_rfl) (by kernel_rfl) (fun _ _ _ h => h) (Or.inl ⟨by kernel_rfl, ?_⟩) hS ?_
    rotate_left 1
    · (intro w' hSw; (try dsimp only at hSw); go_simp; try (with_reducible rfl))
    try simp only [Act.put, List.setIfInBounds_toArray, List.set_cons_zero, List.set_cons_succ]
    refine wpAnyH_oneD (i := 0) rfl (by kernel_rfl) (fun K hK => ?_)
    refine step_empty rfl 22 rfl 3 1 8 sliceInt ?_
    intro we ve hve hOe hbe hse
    have hbe0 : Below w0.heap.size w0 we := (Below.drew (Below.refl _ _)).trans hbe
    have hye0 := (hbe0.cell (p := ⟨w.heap.size + 1, 0, none⟩) hzr).trans hy0
    have hye1 := (hbe0.cell (p := ⟨w.heap.size + 1, 1, none⟩) hzr).trans hy1
    have hOe' : we.ownsRow w0.heap.size 3 1 ve 0 [] := hOe
    have hve2 : ve = .slice (some ⟨w0.heap.size, 0, none⟩) 0 0 := hve
    clear hve
    subst hve2
    refine hK.out _ _ ⟨hye0, hye1⟩ (fun hS => ?_)
    clear hK
    try simp only [Act.put, List.setIfInBounds_toArray, List.set_cons_zero, List.set_cons_succ]
    refine wpAnyH_oneD (i := 3) rfl (by kernel_rfl) (fun K hK => ?_)
    refine step_extend rfl (.tmp 19) (.tmp 21) 22 rfl w0.heap.size 3 1 8 sliceInt _ 0 [] hOe' (by rfl) B s1 n1 c1 (icells stem) (by rfl) (hs1'.below hbe0 hB0) (fun u hu => by obtain ⟨_, _, rfl⟩ := List.mem_map.1 hu; rfl) (by omega) (by omega) hbe0.size ?_
    intro v1 wa hOa hta _ _
    have hba : Below w0.heap.size w0 wa := hbe0.trans (hta.below hbe0.size (fun k hk e => by have := (hOe'.lt k e).1; omega))
    have hya0 := (hba.cell (p := ⟨w.heap.size + 1, 0, none⟩) hzr).trans hy0
    have hya1 := (hba.cell (p := ⟨w.heap.size + 1, 1, none⟩) hzr).trans hy1
    refine hK.out _ _ ⟨hya0, hya1⟩ (fun hS => ?_)
    clear hK
    try simp only [Act.put, List.setIfInBounds_toArray, List.set_cons_zero, List.set_cons_succ]
    refine wpAnyH_oneD (i := 6) rfl (by kernel_rfl) (fun K hK => ?_)
    refine step_extend rfl (.tmp 22) (.tmp 24) 22 rfl w0.heap.size 3 1 8 sliceInt v1 (0 + n1) ([] ++ icells stem) hOa (by rfl) B s2 n2 c2 (icells loop) (by rfl) (hs2'.below hba hB0) (fun u hu => by obtain ⟨_, _, rfl⟩ := List.mem_map.1 hu; rfl) (by omega) (by omega) hba.size ?_
    intro v2 w3 hO3 ht3 _ _
    have hb3 : Below w0.heap.size w0 w3 := hba.trans (ht3.below hba.size (fun k hk e => by have := (hOa.lt k e).1; omega))
    have hy30 := (hb3.cell (p := ⟨w.heap.size + 1, 0, none⟩) hzr).trans hy0
    have hy31 := (hb3.cell (p := ⟨w.heap.size + 1, 1, none⟩) hzr).trans hy1
    refine hK.out _ _ ⟨hy30, hy31⟩ (fun hS => ?_)
    clear hK
    try simp only [Act.put, List.setIfInBounds_toArray, List.set_cons_zero, List.set_cons_succ]
    refine wpAnyH_takeD (i := 7) (v := ?_) rfl (by kernel_rfl) (by kernel_rfl) (by kernel_rfl) (fun _ _ _ h => h) (Or.inl ⟨by kernel_rfl, ?_⟩) hS ?_
    rotate_left 1
    · (intro w' hSw; (try dsimp only at hSw); go_simp; try (with_reducible rfl))
    try simp only [Act.put, List.setIfInBounds_toArray, List.set_cons_zero, List.set_cons_succ]
    refine wpAnyH_done (by kernel_rfl) ?_ _
    simp only [Nat.zero_add, List.nil_append] at hO3
    rw [show icells stem ++ icells loop = icells (stem ++ loop) by simp [icells]] at hO3
    obtain ⟨A3, c3, rfl, hs3⟩ := own_sl hO3
    have HO3 := Lib.hid hO3
    have hz3 := hb3.size
    have hLl : (stem ++ loop).length = n1 + n2 := by rw [List.length_append, HN1.out, HN2.out]
    have hB3 := hb0.trans (hb3.mono (by omega))
    have hisB : isB ne G.edges G.init sets stem loop = (begB G.init ((stem ++ loop).getD 0 0) && (chB ne G.edges ((stem ++ loop) ++ [loop.getD 0 0]) (n1 + n2) && sets.all (metB loop))) := by
      rw [isB, loop_W HLN.out, hLl]
      have : loop.isEmpty = false := by cases loop with | nil => exact absurd rfl HLN.out | cons a l => rfl
      rw [this]; rfl
    have HIS := Lib.hid hisB
    have HB3 := Lib.hid hB3
    have hLm : ∀ (m : Nat) (hm : m < loop.length), loop[m] ∈ stem ++ loop := fun m hm => List.mem_append_right _ (List.getElem_mem hm)
    have HLm := Lib.hid hLm
    clear hLm
    have hl0m : loop.getD 0 0 ∈ stem ++ loop := by
      cases loop with
      | nil => exact absurd rfl HLN.out
      | cons a l => simp
    generalize hLe : stem ++ loop = L at *
    obtain ⟨b3, o3, hA3, hb30, hc30⟩ := hs3.rd.at_ (j := 0) (icells_at (l := L) (k := 0) (by omega))
    subst hA3
    have ha0 : L[0]'(by omega) = L.getD 0 0 := by simp [List.getD, show 0 < L.length by omega]
    rw [ha0] at hc30
    have hl0c : (loop[0]'(by rw [← HN2.out]; omega)) = loop.getD 0 0 := by
      have : 0 < loop.length := by rw [← HN2.out]; omega
      simp [List.getD, this]
    obtain ⟨b2, o2, hA2, hb20, hc20⟩ := hs2'.rd.at_ (j := 0) (icells_at (l := loop) (k := 0) (by rw [← HN2.out]; omega))
    subst hA2
    rw [hl0c] at hc20
    generalize L.getD 0 0 = a0 at *
    generalize hl0e : loop.getD 0 0 = l0 at *
    have HLL := Lib.hid hLl
    have hi3 := h'.hi.below hb3 hB0
    have hnp : 0 < n1 + n2 := by omega
    rw [Nat.add_zero] at hc30 hc20
    clear hLe ha0 hl0c hl0e hLl hisB hO3 hOa hta ht3 hba hya0 hya1 hye0 hye1 hOe hbe hse hbe0 hOe' hB3 hx0 hx1 hx2
    go_wp2
    go_loopw [8] (fun i wr => ∃ k : Nat, k ≤ n1 + n2 ∧ i = .int .i64 k ∧ Below w3.heap.size w3 wr ∧ Hid (∀ x ∈ L.take k, isNd ne x = true)) (fun i _ => n1 + n2 - (intOf i).toNat)
    case atStart => exact ⟨0, by omega, rfl, Below.refl _ _, Lib.hid (by simp)⟩
    case round =>
      obtain ⟨k, hk, rfl, hbx, hnd⟩ := hrel
      have hbx0 : Below w0.heap.size w0 wr := hb3.trans (hbx.mono hz3)
      have hszx := hbx.size
      have hzlx : w.heap.size < wr.heap.size := by omega
      have e0 := (hbx0.cell (p := ⟨w.heap.size, 0, none⟩) hzl).trans HX.out.1
      have e1 := (hbx0.cell (p := ⟨w.heap.size, 1, none⟩) hzl).trans HX.out.2.1
      have e2 := (hbx0.cell (p := ⟨w.heap.size, 2, none⟩) hzl).trans HX.out.2.2
      have HBX := Lib.hid hbx
      have HBW := Lib.hid (HB3.out.trans (hbx.mono (by have := HB3.out.size; omega)))
      by_cases hlt : k < n1 + n2
      · have hkL : k < L.length := by rw [HLL.out]; exact hlt
        obtain ⟨b3', o3', hA3', _, hck⟩ := (hs3.rd.below hbx (Nat.le_refl _)).at_ (icells_at hkL)
        cases hA3'
        have hW0 : (L ++ [l0]).getD k 0 = L[k] := W_at hkL
        have hno := chB_not (n := ne) (E := G.edges) (W := L ++ [l0]) (k := k) (m := n1 + n2) hlt
        rw [hW0] at hno
        have hnx : isNd ne L[k] = true → ∀ x ∈ L.take (k + 1), isNd ne x = true := fun h x hx => by
          rw [take_snoc L k hkL, List.mem_append, List.mem_singleton] at hx
          rcases hx with hx | rfl
          · exact hnd.out x hx
          · exact h
        generalize L[k] = x at *
        have HNO := Lib.hid hno
        have HNX := Lib.hid hnx
        have i0 : (0 : Int) ≤ (k : Int) := by omega
        have i1 : (k : Int) < ((n1 + n2 : Nat) : Int) := by omega
        clear hno hW0 hnx hbx
        cases hxn : isNd ne x
        all_goals
          have HND := Lib.hid hxn
          clear hxn
          go_wp2_with fail
          refine wp_region_held_drew (S := fun w' => w'.cell? ⟨w.heap.size, 0, none⟩ = some (.slice ai ni ci) ∧ w'.cell? ⟨w.heap.size, 1, none⟩ = some (.slice ae ne ce) ∧ w'.cell? ⟨w.heap.size, 2, none⟩ = some (.slice al nl cl) ∧ w'.cell? ⟨b3, o3 + k, none⟩ = some (.int .i64 x)) (by kernel_rfl) ⟨e0, e1, e2, hck⟩ (fun hS => ?_)
          refine wpAnyH_takeD (i := 0) (v := ?_) rfl (by kernel_rfl) (by kernel_rfl) (by kernel_rfl) (fun _ _ _ h => h) (Or.inl ⟨by kernel_rfl, ?_⟩) hS ?_
          rotate_left 1
          · (intro w' hSw; (try dsimp only at hSw); go_simp; try (with_reducible rfl))
          try simp only [Act.put, List.setIfInBounds_toArray, List.set_cons_zero, List.set_cons_succ]
          refine wpAnyH_takeD (i := 1) (v := ?_) rfl (by kernel_rfl) (by kernel_rfl) (by kernel_rfl) (fun _ _ _ h => h) (Or.inl ⟨by kernel_rfl, ?_⟩) hS ?_
          rotate_left 1
          · (intro w' hSw; (try dsimp only at hSw); go_simp; try (with_reducible rfl))
          try simp only [Act.put, List.setIfInBounds_toArray, List.set_cons_zero, List.set_cons_succ]
          refine wpAnyH_takeD (i := 2) (v := ?_) rfl (by kernel_rfl) (by kernel_rfl) (by kernel_rfl) (fun _ _ _ h => h) (Or.inl ⟨by kernel_rfl, ?_⟩) hS ?_
          rotate_left 1
          · (intro w' hSw; (try dsimp only at hSw); go_simp; try (with_reducible rfl))
          try simp only [Act.put, List.setIfInBounds_toArray, List.set_cons_zero, List.set_cons_succ]
          refine wpAnyH_takeD (i := 3) (v := ?_) rfl (by kernel_rfl) (by kernel_rfl) (by kernel_rfl) (fun _ _ _ h => h) (Or.inl ⟨by kernel_rfl, ?_⟩) hS ?_
          rotate_left 1
          · (intro w' hSw; (try dsimp only at hSw); go_simp; try (with_reducible rfl))
          try simp only [Act.put, List.setIfInBounds_toArray, List.set_cons_zero, List.set_cons_succ]
          refine wpAnyH_takeD (i := 4) (v := ?_) rfl (by kernel_rfl) (by kernel_rfl) (by kernel_rfl) (fun _ _ _ h => h) (Or.inl ⟨by kernel_rfl, ?_⟩) hS ?_
          rotate_left 1
          · (intro w' hSw; (try dsimp only at hSw); go_simp; try (with_reducible rfl))
          try simp only [Act.put, List.setIfInBounds_toArray, List.set_cons_zero, List.set_cons_succ]
          refine wpAnyH_oneD (i := 5) rfl (by kernel_rfl) (fun K hK => ?_)
          go_simp
          refine (nodeR_any ai ae al ni ci ne ce nl cl x _).mono ?_
          rw [HND.out]
          rintro e w4 ⟨rfl, hb4'⟩
          have hb4 : Below wr.heap.size wr w4 := below_undrew hb4'
          have k0 := (hb4.cell (p := ⟨w.heap.size, 0, none⟩) hzlx).trans e0
          have k1 := (hb4.cell (p := ⟨w.heap.size, 1, none⟩) hzlx).trans e1
          have k2 := (hb4.cell (p := ⟨w.heap.size, 2, none⟩) hzlx).trans e2
          have k3 := (hb4.cell (p := ⟨b3, o3 + k, none⟩) (show b3 < wr.heap.size by omega)).trans hck
          go_wp2_with fail
          refine hK.out _ _ ⟨k0, k1, k2, k3⟩ (fun hS => ?_)
          clear hK
          try simp only [Act.put, List.setIfInBounds_toArray, List.set_cons_zero, List.set_cons_succ]
          refine wpAnyH_takeD (i := 6) (v := ?_) rfl (by kernel_rfl) (by kernel_rfl) (by kernel_rfl) (fun _ _ _ h => h) (Or.inl ⟨by kernel_rfl, ?_⟩) hS ?_
          rotate_left 1
          · (intro w' hSw; (try dsimp only at hSw); go_simp; try (with_reducible rfl))
          try simp only [Act.put, List.setIfInBounds_toArray, List.set_cons_zero, List.set_cons_succ]
          refine wpAnyH_done (by kernel_rfl) ?_ _
          clear e0 e1 e2 hck k0 k1 k2 k3
        · have HB4 := Lib.hid (HBW.out.trans (hb4.mono HBW.out.size))
          have HNL : Hid (chB ne G.edges (L ++ [l0]) (n1 + n2) = false) := Lib.hid (HNO.out (by rw [leadB, HND.out]; rfl))
          clear hb4 hb4'
          go_wp2
          go_ret
          exact ⟨ret_bool (by simp [HIS.out, HNL.out]), HB4.out⟩
        · have HB4 := Lib.hid (HBX.out.trans (hb4.mono HBX.out.size))
          clear hb4 hb4'
          go_wp2
          go_roundw
          case rel => exact ⟨k + 1, by omega, by go_num, HB4.out, Lib.hid (HNX.out HND.out)⟩
          case measure => simp [intOf]; omega
      · have HNS : Hid (∀ x ∈ L, isNd ne x = true) := Lib.hid (by have := hnd.out; rwa [List.take_of_length_le (by rw [HLL.out]; omega)] at this)
        obtain ⟨wx, rfl⟩ : ∃ wx : World, wx = wr := ⟨_, rfl⟩
        have hc30r := (hbx.cell (p := ⟨b3, o3, none⟩) hb30).trans hc30
        have hi3 := h'.hi.below hbx0 hB0
        have hdk : decide ((k : Int) < (n1 : Int) + (n2 : Int)) = false := by simp; omega
        clear e1 e2 hnd
        go_wp2
        go_loopw [9, 10] (fun f i wr => ∃ k : Nat, k ≤ ni ∧ i = .int .i64 k ∧ f = .bool (begB (G.init.take k) a0) ∧ Below wx.heap.size wx wr) (fun _ i _ => ni - (intOf i).toNat)
        case atStart => exact ⟨0, by omega, rfl, rfl, Below.refl _ _⟩
        case round =>
          obtain ⟨k, hk, rfl, rfl, hby⟩ := hrel
          clear e0 hc30r
          have hby0 : Below w0.heap.size w0 wr := hbx0.trans (hby.mono (by omega))
          have hszy := hby.size
          have e0 := (hby0.cell (p := ⟨w.heap.size, 0, none⟩) hzl).trans HX.out.1
          have hc30r := ((hbx.trans (hby.mono hszx)).cell (p := ⟨b3, o3, none⟩) hb30).trans hc30
          have HBY := Lib.hid (hby.trans ((Below.drew (Below.refl _ _)).mono hszy))
          by_cases hlt : k < ni
          · have hkx : k < G.init.length := by rw [← HLI.out]; exact hlt
            obtain ⟨b, o, hA, hbo, hc⟩ := (hi3.rd.below hby (by omega)).at_ (icells_at hkx)
            subst hA
            have hnpi : (0 : Int) < (n1 : Int) + (n2 : Int) := by omega
            have hs := begB_succ hkx a0
            generalize begB (G.init.take k) a0 = acc at *
            generalize G.init[k] = x at *
            have HS := Lib.hid hs
            have i0 : (0 : Int) ≤ (k : Int) := by omega
            have i1 : (k : Int) < (ni : Int) := by omega
            clear hs
            cases acc
            · go_wp2_with fail
              refine wp_region_held_drew (S := fun w' => w'.cell? ⟨w.heap.size, 0, none⟩ = some (.slice (some ⟨b, o, none⟩) ni ci) ∧ w'.cell? ⟨b, o + k, none⟩ = some (.int .i64 x) ∧ w'.cell? ⟨b3, o3, none⟩ = some (.int .i64 a0)) (by kernel_rfl) ⟨e0, hc, hc30r⟩ (fun hS => ?_)
              refine wpAnyH_takeD (i := 0) (v := ?_) rfl (by kernel_rfl) (by kernel_rfl) (by kernel_rfl) (fun _ _ _ h => h) (Or.inl ⟨by kernel_rfl, ?_⟩) hS ?_
              rotate_left 1
              · (intro w' hSw; (try dsimp only at hSw); go_simp; try (with_reducible rfl))
              try simp only [Act.put, List.setIfInBounds_toArray, List.set_cons_zero, List.set_cons_succ]
              refine wpAnyH_takeD (i := 1) (v := ?_) rfl (by kernel_rfl) (by kernel_rfl) (by kernel_rfl) (fun _ _ _ h => h) (Or.inl ⟨by kernel_rfl, ?_⟩) hS ?_
              rotate_left 1
              · (intro w' hSw; (try dsimp only at hSw); go_simp; try (with_reducible rfl))
              try simp only [Act.put, List.setIfInBounds_toArray, List.set_cons_zero, List.set_cons_succ]
              refine wpAnyH_takeD (i := 2) (v := ?_) rfl (by kernel_rfl) (by kernel_rfl) (by kernel_rfl) (fun _ _ _ h => h) (Or.inl ⟨by kernel_rfl, ?_⟩) hS ?_
              rotate_left 1
              · (intro w' hSw; (try dsimp only at hSw); go_simp; try (with_reducible rfl))
              try simp only [Act.put, List.setIfInBounds_toArray, List.set_cons_zero, List.set_cons_succ]
              refine wpAnyH_takeD (i := 3) (v := ?_) rfl (by kernel_rfl) (by kernel_rfl) (by kernel_rfl) (fun _ _ _ h => h) (Or.inl ⟨by kernel_rfl, ?_⟩) hS ?_
              rotate_left 1
              · (intro w' hSw; (try dsimp only at hSw); go_simp; try (with_reducible rfl))
              try simp only [Act.put, List.setIfInBounds_toArray, List.set_cons_zero, List.set_cons_succ]
              refine wpAnyH_takeD (i := 4) (v := ?_) rfl (by kernel_rfl) (by kernel_rfl) (by kernel_rfl) (fun _ _ _ h => h) (Or.inl ⟨by kernel_rfl, ?_⟩) hS ?_
              rotate_left 1
              · (intro w' hSw; (try dsimp only at hSw); go_simp; try (with_reducible rfl))
              try simp only [Act.put, List.setIfInBounds_toArray, List.set_cons_zero, List.set_cons_succ]
              refine wpAnyH_takeD (i := 5) (v := ?_) rfl (by kernel_rfl) (by kernel_rfl) (by kernel_rfl) (fun _ _ _ h => h) (Or.inl ⟨by kernel_rfl, ?_⟩) hS ?_
              rotate_left 1
              · (intro w' hSw; (try dsimp only at hSw); go_simp; try (with_reducible rfl))
              try simp only [Act.put, List.setIfInBounds_toArray, List.set_cons_zero, List.set_cons_succ]
              refine wpAnyH_takeD (i := 6) (v := ?_) rfl (by kernel_rfl) (by kernel_rfl) (by kernel_rfl) (fun _ _ _ h => h) (Or.inl ⟨by kernel_rfl, ?_⟩) hS ?_
              rotate_left 1
              · (intro w' hSw; (try dsimp only at hSw); go_simp; try (with_reducible rfl))
              try simp only [Act.put, List.setIfInBounds_toArray, List.set_cons_zero, List.set_cons_succ]
              refine wpAnyH_takeD (i := 7) (v := ?_) rfl (by kernel_rfl) (by kernel_rfl) (by kernel_rfl) (fun _ _ _ h => h) (Or.inl ⟨by kernel_rfl, ?_⟩) hS ?_
              rotate_left 1
              · (intro w' hSw; (try dsimp only at hSw); go_simp; try (with_reducible rfl))
              try simp only [Act.put, List.setIfInBounds_toArray, List.set_cons_zero, List.set_cons_succ]
              refine wpAnyH_takeD (i := 8) (v := ?_) rfl (by kernel_rfl) (by kernel_rfl) (by kernel_rfl) (fun _ _ _ h => h) (Or.inl ⟨by kernel_rfl, ?_⟩) hS ?_
              rotate_left 1
              · (intro w' hSw; (try dsimp only at hSw); go_simp; try (with_reducible rfl))
              try simp only [Act.put, List.setIfInBounds_toArray, List.set_cons_zero, List.set_cons_succ]
              refine wpAnyH_takeD (i := 9) (v := ?_) rfl (by kernel_rfl) (by kernel_rfl) (by kernel_rfl) (fun _ _ _ h => h) (Or.inl ⟨by kernel_rfl, ?_⟩) hS ?_
              rotate_left 1
              · (intro w' hSw; (try dsimp only at hSw); go_simp; try (with_reducible rfl))
              try simp only [Act.put, List.setIfInBounds_toArray, List.set_cons_zero, List.set_cons_succ]
              refine wpAnyH_takeD (i := 10) (v := ?_) rfl (by kernel_rfl) (by kernel_rfl) (by kernel_rfl) (fun _ _ _ h => h) (Or.inl ⟨by kernel_rfl, ?_⟩) hS ?_
              rotate_left 1
              · (intro w' hSw; (try dsimp only at hSw); go_simp; try (with_reducible rfl))
              try simp only [Act.put, List.setIfInBounds_toArray, List.set_cons_zero, List.set_cons_succ]
              refine wpAnyH_takeD (i := 11) (v := ?_) rfl (by kernel_rfl) (by kernel_rfl) (by kernel_rfl) (fun _ _ _ h => h) (Or.inl ⟨by kernel_rfl, ?_⟩) hS ?_
              rotate_left 1
              · (intro w' hSw; (try dsimp only at hSw); go_simp; try (with_reducible rfl))
              try simp only [Act.put, List.setIfInBounds_toArray, List.set_cons_zero, List.set_cons_succ]
              refine wpAnyH_takeD (i := 12) (v := ?_) rfl (by kernel_rfl) (by kernel_rfl) (by kernel_rfl) (fun _ _ _ h => h) (Or.inl ⟨by kernel_rfl, ?_⟩) hS ?_
              rotate_left 1
              · (intro w' hSw; (try dsimp only at hSw); go_simp; try (with_reducible rfl))
              try simp only [Act.put, List.setIfInBounds_toArray, List.set_cons_zero, List.set_cons_succ]
              refine wpAnyH_done (by kernel_rfl) ?_ _
              go_wp2
              go_roundw
              case rel => exact ⟨k + 1, by omega, by go_num, by rw [HS.out, Bool.false_or], HBY.out⟩
              case measure => simp [intOf]; omega
            · go_wp2_with fail
              refine wp_region_held_drew (S := fun w' => True ∧ True) (by kernel_rfl) ⟨trivial, trivial⟩ (fun hS => ?_)
              refine wpAnyH_takeD (i := 0) (v := ?_) rfl (by kernel_rfl) (by kernel_rfl) (by kernel_rfl) (fun _ _ _ h => h) (Or.inl ⟨by kernel_rfl, ?_⟩) hS ?_
              rotate_left 1
              · (intro w' hSw; (try dsimp only at hSw); go_simp; try (with_reducible rfl))
              try simp only [Act.put, List.setIfInBounds_toArray, List.set_cons_zero, List.set_cons_succ]
              refine wpAnyH_takeD (i := 1) (v := ?_) rfl (by kernel_rfl) (by kernel_rfl) (by kernel_rfl) (fun _ _ _ h => h) (Or.inl ⟨by kernel_rfl, ?_⟩) hS ?_
              rotate_left 1
              · (intro w' hSw; (try dsimp only at hSw); go_simp; try (with_reducible rfl))
              try simp only [Act.put, List.setIfInBounds_toArray, List.set_cons_zero, List.set_cons_succ]
              refine wpAnyH_takeD (i := 2) (v := undef) rfl (by kernel_rfl) (by kernel_rfl) (by kernel_rfl) (fun _ _ _ h => h) (Or.inr ⟨by kernel_rfl, rfl⟩) hS ?_
              try simp only [Act.put, List.setIfInBounds_toArray, List.set_cons_zero, List.set_cons_succ]
              refine wpAnyH_takeD (i := 3) (v := undef) rfl (by kernel_rfl) (by kernel_rfl) (by kernel_rfl) (fun _ _ _ h => h) (Or.inr ⟨by kernel_rfl, rfl⟩) hS ?_
              try simp only [Act.put, List.setIfInBounds_toArray, List.set_cons_zero, List.set_cons_succ]
              refine wpAnyH_takeD (i := 4) (v := undef) rfl (by kernel_rfl) (by kernel_rfl) (by kernel_rfl) (fun _ _ _ h => h) (Or.inr ⟨by kernel_rfl, rfl⟩) hS ?_
              try simp only [Act.put, List.setIfInBounds_toArray, List.set_cons_zero, List.set_cons_succ]
              refine wpAnyH_takeD (i := 5) (v := undef) rfl (by kernel_rfl) (by kernel_rfl) (by kernel_rfl) (fun _ _ _ h => h) (Or.inr ⟨by kernel_rfl, rfl⟩) hS ?_
              try simp only [Act.put, List.setIfInBounds_toArray, List.set_cons_zero, List.set_cons_succ]
              refine wpAnyH_takeD (i := 6) (v := undef) rfl (by kernel_rfl) (by kernel_rfl) (by kernel_rfl) (fun _ _ _ h => h) (Or.inr ⟨by kernel_rfl, rfl⟩) hS ?_
              try simp only [Act.put, List.setIfInBounds_toArray, List.set_cons_zero, List.set_cons_succ]
              refine wpAnyH_takeD (i := 7) (v := undef) rfl (by kernel_rfl) (by kernel_rfl) (by kernel_rfl) (fun _ _ _ h => h) (Or.inr ⟨by kernel_rfl, rfl⟩) hS ?_
              try simp only [Act.put, List.setIfInBounds_toArray, List.set_cons_zero, List.set_cons_succ]
              refine wpAnyH_takeD (i := 8) (v := undef) rfl (by kernel_rfl) (by kernel_rfl) (by kernel_rfl) (fun _ _ _ h => h) (Or.inr ⟨by kernel_rfl, rfl⟩) hS ?_
              try simp only [Act.put, List.setIfInBounds_toArray, List.set_cons_zero, List.set_cons_succ]
              refine wpAnyH_takeD (i := 9) (v := undef) rfl (by kernel_rfl) (by kernel_rfl) (by kernel_rfl) (fun _ _ _ h => h) (Or.inr ⟨by kernel_rfl, rfl⟩) hS ?_
              try simp only [Act.put, List.setIfInBounds_toArray, List.set_cons_zero, List.set_cons_succ]
              refine wpAnyH_takeD (i := 10) (v := undef) rfl (by kernel_rfl) (by kernel_rfl) (by kernel_rfl) (fun _ _ _ h => h) (Or.inr ⟨by kernel_rfl, rfl⟩) hS ?_
              try simp only [Act.put, List.setIfInBounds_toArray, List.set_cons_zero, List.set_cons_succ]
              refine wpAnyH_takeD (i := 11) (v := ?_) rfl (by kernel_rfl) (by kernel_rfl) (by kernel_rfl) (fun _ _ _ h => h) (Or.inl ⟨by kernel_rfl, ?_⟩) hS ?_
              rotate_left 1
              · (intro w' hSw; (try dsimp only at hSw); go_simp; try (with_reducible rfl))
              try simp only [Act.put, List.setIfInBounds_toArray, List.set_cons_zero, List.set_cons_succ]
              refine wpAnyH_takeD (i := 12) (v := ?_) rfl (by kernel_rfl) (by kernel_rfl) (by kernel_rfl) (fun _ _ _ h => h) (Or.inl ⟨by kernel_rfl, ?_⟩) hS ?_
              rotate_left 1
              · (intro w' hSw; (try dsimp only at hSw); go_simp; try (with_reducible rfl))
              try simp only [Act.put, List.setIfInBounds_toArray, List.set_cons_zero, List.set_cons_succ]
              refine wpAnyH_done (by kernel_rfl) ?_ _
              go_wp2
              go_roundw
              case rel => exact ⟨k + 1, by omega, by go_num, by rw [HS.out, Bool.true_or], HBY.out⟩
              case measure => simp [intOf]; omega
          · have hkn : begB (G.init.take k) a0 = begB G.init a0 := by rw [List.take_of_length_le (by rw [← HLI.out]; omega)]
            rw [hkn]
            obtain ⟨wy, rfl⟩ : ∃ wy : World, wy = wr := ⟨_, rfl⟩
            have f1 := (hby0.cell (p := ⟨w.heap.size + 1, 1, none⟩) hzr).trans hy1
            have hcl := (hby0.cell (p := ⟨b2, o2, none⟩) (show b2 < w0.heap.size by omega)).trans hc20
            have hOy := own_below (own_below HO3.out hbx) hby
            have hnp2 : 0 < n2 := by omega
            have hzb : b2 < wy.heap.size := by omega
            have hzb2 : w.heap.size + 1 < wy.heap.size := by omega
            clear hkn hc30r
            generalize begB G.init a0 = bg at *
            have hit : (icells L ++ [Value.int .i64 l0]) = icells (L ++ [l0]) := by simp [icells]
            have HIT := Lib.hid hit
            clear hit
            go_wp2_with (at_builtin; refine wpList_push rfl (.tmp 58) (.tmp 63) 22 rfl w0.heap.size 3 1 8 sliceInt _ _ _ (hOy.alloc _) rfl wy.heap.size #[.int .i64 l0] rfl (heap_alloc_new wy _) rfl (by simp [Value.oneCell']) (by omega) (by omega) (by simp; omega) ?_; intro v5 w5 hO5 ht5 _ _)
            have hbyA : Below wy.heap.size wy (wy.alloc (.cells #[.int .i64 l0] 3)) := (Below.refl _ _).alloc (Nat.le_refl _) _
            have hb5 : Below w0.heap.size w0 w5 := (hby0.trans (hbyA.mono (by omega))).trans (ht5.below (by simp; omega) (fun k hk e => by have := (hOy.lt k e).1; omega))
            rw [HIT.out] at hO5
            obtain ⟨A5, c5, rfl, hs5⟩ := own_sl hO5
            obtain ⟨W, hW⟩ : ∃ W, W = L ++ [l0] := ⟨_, rfl⟩
            have hWl : W.length = n1 + n2 + 1 := by rw [hW]; simp [HLL.out]
            have HWN : Hid (∀ (m : Nat) (hm : m < W.length), isNd ne W[m] = true) := Lib.hid (fun m hm => by
              subst hW
              have := List.getElem_mem hm
              rcases List.mem_append.1 this with h | h
              · exact HNS.out _ h
              · rw [List.mem_singleton] at h; rw [h]; exact HNS.out _ hl0m)
            rw [← hW] at hs5 HIS
            obtain ⟨m1, hm1⟩ : ∃ m1, m1 = n1 + n2 + 1 := ⟨_, rfl⟩
            rw [← hm1] at hs5 hWl
            rw [← hm1]
            have HM1 := Lib.hid hm1
            have hm1a : n1 + n2 < m1 := by omega
            have hm1b : m1 ≤ n1 + n2 + 1 := by omega
            have HWL := Lib.hid hWl
            have hsz5 := hb5.size
            have HB5 := Lib.hid (hb0.trans (hb5.mono (by omega)))
            clear hO5 ht5 hbyA hOy hW hm1 hWl f1 hcl e0
            go_loopw [11] (fun i wr => ∃ k : Nat, k ≤ n1 + n2 ∧ i = .int .i64 k ∧ Below w5.heap.size w5 wr ∧ Hid (chB ne G.edges W k = true)) (fun i _ => n1 + n2 - (intOf i).toNat)
            case atStart => exact ⟨0, by omega, rfl, Below.refl _ _, Lib.hid rfl⟩
            case round =>
              obtain ⟨k, hk, rfl, hbr, hch⟩ := hrel
              have hbr0 : Below w0.heap.size w0 wr := hb5.trans (hbr.mono hsz5)
              have hszr := hbr0.size
              have hszr5 := hbr.size
              have hzlx : w.heap.size < wr.heap.size := by omega
              have e0 := (hbr0.cell (p := ⟨w.heap.size, 0, none⟩) hzl).trans HX.out.1
              have e1 := (hbr0.cell (p := ⟨w.heap.size, 1, none⟩) hzl).trans HX.out.2.1
              have e2 := (hbr0.cell (p := ⟨w.heap.size, 2, none⟩) hzl).trans HX.out.2.2
              have HBR := Lib.hid hbr
              have HBW2 := Lib.hid (HB5.out.trans (hbr.mono (by have := HB5.out.size; omega)))
              by_cases hlt : k < n1 + n2
              · have hk0 : k < W.length := by rw [HWL.out]; omega
                have hk1 : k + 1 < W.length := by rw [HWL.out]; omega
                obtain ⟨b5, o5, hA5, hb50, hck⟩ := (hs5.rd.below hbr (Nat.le_refl _)).at_ (icells_at hk0)
                obtain ⟨b5', o5', hA5', _, hck1⟩ := (hs5.rd.below hbr (Nat.le_refl _)).at_ (icells_at hk1)
                subst hA5
                cases hA5'
                have hW0 : W.getD k 0 = W[k] := by simp [List.getD, hk0]
                have hW1 : W.getD (k + 1) 0 = W[k + 1] := by simp [List.getD, hk1]
                have hsc := chB_succ ne G.edges W k
                have hno := chB_not (n := ne) (E := G.edges) (W := W) (k := k) (m := n1 + n2) hlt
                rw [hW0, hW1] at hsc hno
                have hpn := HWN.out k hk0
                have htn := HWN.out (k + 1) hk1
                generalize W[k] = x at *
                generalize W[k + 1] = t at *
                obtain ⟨p, rfl, hpl⟩ := isNd_nat hpn
                have hlb : leadB ne G.edges (p : Int) t = edgeB (G.edges.getD p []) t := by
                  rw [leadB, htn, isNd_iff.2 ⟨by omega, by omega⟩, Bool.true_and, Bool.true_and, Int.toNat_natCast]
                rw [hlb] at hsc hno
                have hh := (h'.below hbr0 hB0).up (show B ≤ wr.heap.size by omega)
                have HSC := Lib.hid hsc
                have HNO := Lib.hid hno
                have i0 : (0 : Int) ≤ (k : Int) := by omega
                have i1 : (k : Int) < (m1 : Int) := by omega
                have i2 : (0 : Int) ≤ (k : Int) + 1 := by omega
                have i3 : (k : Int) + 1 < (m1 : Int) := by omega
                have hkk : ((k : Int) + 1).toNat = k + 1 := by omega
                have hwk : IntKind.i64.wrap ((k : Int) + 1) = (k : Int) + 1 := IntWalk.i64_in _ (by omega)
                clear hsc hno hW0 hW1 hbr hlb htn
                cases hel : edgeB (G.edges.getD p []) t
                all_goals
                  have HLB := Lib.hid hel
                  clear hel
                  go_wp2_with fail
                  refine wp_region_held_drew (S := fun w' => w'.cell? ⟨w.heap.size, 0, none⟩ = some (.slice ai ni ci) ∧ w'.cell? ⟨w.heap.size, 1, none⟩ = some (.slice ae ne ce) ∧ w'.cell? ⟨w.heap.size, 2, none⟩ = some (.slice al nl cl) ∧ w'.cell? ⟨b5, o5 + k, none⟩ = some (.int .i64 (p : Int)) ∧ w'.cell? ⟨b5, o5 + (k + 1), none⟩ = some (.int .i64 t)) (by kernel_rfl) ⟨e0, e1, e2, hck, hck1⟩ (fun hS => ?_)
                  refine wpAnyH_takeD (i := 0) (v := ?_) rfl (by kernel_rfl) (by kernel_rfl) (by kernel_rfl) (fun _ _ _ h => h) (Or.inl ⟨by kernel_rfl, ?_⟩) hS ?_
                  rotate_left 1
                  · (intro w' hSw; (try dsimp only at hSw); go_simp; try (with_reducible rfl))
                  try simp only [Act.put, List.setIfInBounds_toArray, List.set_cons_zero, List.set_cons_succ]
                  refine wpAnyH_takeD (i := 1) (v := ?_) rfl (by kernel_rfl) (by kernel_rfl) (by kernel_rfl) (fun _ _ _ h => h) (Or.inl ⟨by kernel_rfl, ?_⟩) hS ?_
                  rotate_left 1
                  · (intro w' hSw; (try dsimp only at hSw); go_simp; try (with_reducible rfl))
                  try simp only [Act.put, List.setIfInBounds_toArray, List.set_cons_zero, List.set_cons_succ]
                  refine wpAnyH_takeD (i := 2) (v := ?_) rfl (by kernel_rfl) (by kernel_rfl) (by kernel_rfl) (fun _ _ _ h => h) (Or.inl ⟨by kernel_rfl, ?_⟩) hS ?_
                  rotate_left 1
                  · (intro w' hSw; (try dsimp only at hSw); go_simp; try (with_reducible rfl))
                  try simp only [Act.put, List.setIfInBounds_toArray, List.set_cons_zero, List.set_cons_succ]
                  refine wpAnyH_takeD (i := 3) (v := ?_) rfl (by kernel_rfl) (by kernel_rfl) (by kernel_rfl) (fun _ _ _ h => h) (Or.inl ⟨by kernel_rfl, ?_⟩) hS ?_
                  rotate_left 1
                  · (intro w' hSw; (try dsimp only at hSw); go_simp; try (with_reducible rfl))
                  try simp only [Act.put, List.setIfInBounds_toArray, List.set_cons_zero, List.set_cons_succ]
                  refine wpAnyH_takeD (i := 4) (v := ?_) rfl (by kernel_rfl) (by kernel_rfl) (by kernel_rfl) (fun _ _ _ h => h) (Or.inl ⟨by kernel_rfl, ?_⟩) hS ?_
                  rotate_left 1
                  · (intro w' hSw; (try dsimp only at hSw); go_simp; try (with_reducible rfl))
                  try simp only [Act.put, List.setIfInBounds_toArray, List.set_cons_zero, List.set_cons_succ]
                  refine wpAnyH_takeD (i := 5) (v := ?_) rfl (by kernel_rfl) (by kernel_rfl) (by kernel_rfl) (fun _ _ _ h => h) (Or.inl ⟨by kernel_rfl, ?_⟩) hS ?_
                  rotate_left 1
                  · (intro w' hSw; (try dsimp only at hSw); go_simp; try (with_reducible rfl))
                  try simp only [Act.put, List.setIfInBounds_toArray, List.set_cons_zero, List.set_cons_succ]
                  refine wpAnyH_takeD (i := 6) (v := ?_) rfl (by kernel_rfl) (by kernel_rfl) (by kernel_rfl) (fun _ _ _ h => h) (Or.inl ⟨by kernel_rfl, ?_⟩) hS ?_
                  rotate_left 1
                  · (intro w' hSw; (try dsimp only at hSw); go_simp; try (with_reducible rfl))
                  try simp only [Act.put, List.setIfInBounds_toArray, List.set_cons_zero, List.set_cons_succ]
                  refine wpAnyH_takeD (i := 7) (v := ?_) rfl (by kernel_rfl) (by kernel_rfl) (by kernel_rfl) (fun _ _ _ h => h) (Or.inl ⟨by kernel_rfl, ?_⟩) hS ?_
                  rotate_left 1
                  · (intro w' hSw; (try dsimp only at hSw); go_simp; try (with_reducible rfl))
                  try simp only [Act.put, List.setIfInBounds_toArray, List.set_cons_zero, List.set_cons_succ]
                  refine wpAnyH_takeD (i := 8) (v := ?_) rfl (by kernel_rfl) (by kernel_rfl) (by kernel_rfl) (fun _ _ _ h => h) (Or.inl ⟨by kernel_rfl, ?_⟩) hS ?_
                  rotate_left 1
                  · (intro w' hSw; (try dsimp only at hSw); go_simp; try (with_reducible rfl))
                  try simp only [Act.put, List.setIfInBounds_toArray, List.set_cons_zero, List.set_cons_succ]
                  refine wpAnyH_takeD (i := 9) (v := ?_) rfl (by kernel_rfl) (by kernel_rfl) (by kernel_rfl) (fun _ _ _ h => h) (Or.inl ⟨by kernel_rfl, ?_⟩) hS ?_
                  rotate_left 1
                  · (intro w' hSw; (try dsimp only at hSw); go_simp; try (with_reducible rfl))
                  try simp only [Act.put, List.setIfInBounds_toArray, List.set_cons_zero, List.set_cons_succ]
                  refine wpAnyH_oneD (i := 10) rfl (by kernel_rfl) (fun K hK => ?_)
                  go_simp
                  refine (edge_any ai ae al ni ci ne ce nl cl G p t _ wr.heap.size (hh.below (Below.drew (Below.refl _ _)) (Nat.le_refl _)) (Nat.le_refl _) hpl he hr).mono ?_
                  rw [HLB.out]
                  rintro e w4 ⟨rfl, hb4'⟩
                  have hb4 : Below wr.heap.size wr w4 := below_undrew hb4'
                  have k0 := (hb4.cell (p := ⟨w.heap.size, 0, none⟩) hzlx).trans e0
                  have k1 := (hb4.cell (p := ⟨w.heap.size, 1, none⟩) hzlx).trans e1
                  have k2 := (hb4.cell (p := ⟨w.heap.size, 2, none⟩) hzlx).trans e2
                  have k3 := (hb4.cell (p := ⟨b5, o5 + k, none⟩) (show b5 < wr.heap.size by omega)).trans hck
                  have k4 := (hb4.cell (p := ⟨b5, o5 + (k + 1), none⟩) (show b5 < wr.heap.size by omega)).trans hck1
                  go_wp2_with fail
                  refine hK.out _ _ ⟨k0, k1, k2, k3, k4⟩ (fun hS => ?_)
                  clear hK
                  try simp only [Act.put, List.setIfInBounds_toArray, List.set_cons_zero, List.set_cons_succ]
                  refine wpAnyH_takeD (i := 11) (v := ?_) rfl (by kernel_rfl) (by kernel_rfl) (by kernel_rfl) (fun _ _ _ h => h) (Or.inl ⟨by kernel_rfl, ?_⟩) hS ?_
                  rotate_left 1
                  · (intro w' hSw; (try dsimp only at hSw); go_simp; try (with_reducible rfl))
                  try simp only [Act.put, List.setIfInBounds_toArray, List.set_cons_zero, List.set_cons_succ]
                  refine wpAnyH_done (by kernel_rfl) ?_ _
                  clear e0 e1 e2 hck hck1 k0 k1 k2 k3 k4 hwk hkk
                · have HB4 := Lib.hid (HBW2.out.trans (hb4.mono HBW2.out.size))
                  clear hb4 hb4'
                  go_wp2
                  go_ret
                  exact ⟨ret_bool (by simp [HIS.out, HNO.out HLB.out]), HB4.out⟩
                · have HB4 := Lib.hid (HBR.out.trans (hb4.mono HBR.out.size))
                  clear hb4 hb4'
                  go_wp2
                  go_roundw
                  case rel => exact ⟨k + 1, by omega, by go_num, HB4.out, Lib.hid (by rw [HSC.out, hch.out, HLB.out]; rfl)⟩
                  case measure => simp [intOf]; omega
              · have HCH : Hid (chB ne G.edges W (n1 + n2) = true) := Lib.hid (by rw [← show k = n1 + n2 by omega]; exact hch.out)
                obtain ⟨wz0, rfl⟩ : ∃ wz0 : World, wz0 = wr := ⟨_, rfl⟩
                have hdk1 : decide ((k : Int) + 1 < (m1 : Int)) = false := by simp; omega
                clear e0 e1 e2 hbr hch
                go_wp2
                go_loopw [12, 13, 14] (fun i _ _ wr => ∃ k : Nat, k ≤ ns ∧ i = .int .i64 k ∧ Below w5.heap.size w5 wr ∧ Hid ((sets.take k).all (metB loop) = true)) (fun i _ _ _ => ns - (intOf i).toNat)
                case atStart => exact ⟨0, by omega, rfl, HBR.out, Lib.hid rfl⟩
                case round =>
                  obtain ⟨k, hk, rfl, hbz, hal⟩ := hrel
                  obtain ⟨wz, rfl⟩ : ∃ wz : World, wz = wr := ⟨_, rfl⟩
                  have hbz0 : Below w0.heap.size w0 wz := hb5.trans (hbz.mono hsz5)
                  have hszz := hbz0.size
                  have f1 := (hbz0.cell (p := ⟨w.heap.size + 1, 1, none⟩) hzr).trans hy1
                  have HBZ := Lib.hid (HB5.out.trans (hbz.mono (by have := HB5.out.size; omega)))
                  by_cases hlt : k < ns
                  · have hkS : k < sets.length := by rw [← HSN.out]; exact hlt
                    obtain ⟨b, o, A', n', c', hAe, hbb, hc0, hrow⟩ := hs'.at_ (j := k) (ys := bcells sets[k]) (by simp [hkS])
                    subst hAe
                    have hn' : n' = sets[k].length := by have := hrow.len; simpa [bcells] using this.symm
                    have hsa : (sets.take (k + 1)).all (metB loop) = ((sets.take k).all (metB loop) && metB loop sets[k]) := by rw [take_snoc sets k hkS, List.all_append]; simp
                    have hso : metB loop sets[k] = false → sets.all (metB loop) = false := fun h => List.all_eq_false.2 ⟨_, List.getElem_mem hkS, by rw [h]; decide⟩
                    generalize sets[k] = s at *
                    have HSA := Lib.hid hsa
                    have HSO := Lib.hid hso
                    have HNN := Lib.hid hn'
                    have HBz := Lib.hid hbz
                    clear hsa hso hn' hbz f1
                    go_wp2
                    go_loopw [13, 14] (fun f i wr => ∃ m : Nat, m ≤ n2 ∧ i = .int .i64 m ∧ f = .bool (metB (loop.take m) s) ∧ Below wz.heap.size wz wr) (fun _ i _ => n2 - (intOf i).toNat)
                    case atStart => exact ⟨0, by omega, rfl, rfl, Below.refl _ _⟩
                    case round =>
                      obtain ⟨m, hm, rfl, rfl, hbv⟩ := hrel
                      have hbv0 : Below w0.heap.size w0 wr := hbz0.trans (hbv.mono hszz)
                      have hszv := hbv0.size
                      have f1 := (hbv0.cell (p := ⟨w.heap.size + 1, 1, none⟩) hzr).trans hy1
                      have hc := (hbv0.cell (p := ⟨b, o + k, none⟩) (show b < w0.heap.size by omega)).trans hc0
                      by_cases hltm : m < n2
                      · have hml : m < loop.length := by rw [← HN2.out]; exact hltm
                        obtain ⟨b2', o2', hA2', _, hcm⟩ := (hs2'.rd.below hbv0 hB0).at_ (icells_at hml)
                        cases hA2'
                        have hms := metB_succ hml s
                        have hxn := HNS.out _ (HLm.out m hml)
                        generalize metB (loop.take m) s = acc at *
                        generalize loop[m] = x at *
                        obtain ⟨x, rfl, hxl⟩ := isNd_nat hxn
                        have HMS := Lib.hid hms
                        have HBV := Lib.hid hbv
                        have i0 : (0 : Int) ≤ (k : Int) := by omega
                        have i1 : (k : Int) < (ns : Int) := by omega
                        have i2 : (0 : Int) ≤ (m : Int) := by omega
                        have i3 : (m : Int) < (n2 : Int) := by omega
                        clear hms hbv hxn
                        cases acc
                        · go_wp2_with fail
                          refine wp_region_held_drew (S := fun w' => w'.cell? ⟨b, o + k, none⟩ = some (.slice A' n' c') ∧ w'.cell? ⟨w.heap.size + 1, 1, none⟩ = some (.slice (some ⟨b2, o2, none⟩) n2 c2) ∧ w'.cell? ⟨b2, o2 + m, none⟩ = some (.int .i64 (x : Int))) (by kernel_rfl) ⟨hc, f1, hcm⟩ (fun hS => ?_)
                          refine wpAnyH_takeD (i := 0) (v := ?_) rfl (by kernel_rfl) (by kernel_rfl) (by kernel_rfl) (fun _ _ _ h => h) (Or.inl ⟨by kernel_rfl, ?_⟩) hS ?_
                          rotate_left 1
                          · (intro w' hSw; (try dsimp only at hSw); go_simp; try (with_reducible rfl))
                          try simp only [Act.put, List.setIfInBounds_toArray, List.set_cons_zero, List.set_cons_succ]
                          refine wpAnyH_takeD (i := 1) (v := ?_) rfl (by kernel_rfl) (by kernel_rfl) (by kernel_rfl) (fun _ _ _ h => h) (Or.inl ⟨by kernel_rfl, ?_⟩) hS ?_
                          rotate_left 1
                          · (intro w' hSw; (try dsimp only at hSw); go_simp; try (with_reducible rfl))
                          try simp only [Act.put, List.setIfInBounds_toArray, List.set_cons_zero, List.set_cons_succ]
                          refine wpAnyH_takeD (i := 2) (v := ?_) rfl (by kernel_rfl) (by kernel_rfl) (by kernel_rfl) (fun _ _ _ h => h) (Or.inl ⟨by kernel_rfl, ?_⟩) hS ?_
                          rotate_left 1
                          · (intro w' hSw; (try dsimp only at hSw); go_simp; try (with_reducible rfl))
                          try simp only [Act.put, List.setIfInBounds_toArray, List.set_cons_zero, List.set_cons_succ]
                          refine wpAnyH_takeD (i := 3) (v := ?_) rfl (by kernel_rfl) (by kernel_rfl) (by kernel_rfl) (fun _ _ _ h => h) (Or.inl ⟨by kernel_rfl, ?_⟩) hS ?_
                          rotate_left 1
                          · (intro w' hSw; (try dsimp only at hSw); go_simp; try (with_reducible rfl))
                          try simp only [Act.put, List.setIfInBounds_toArray, List.set_cons_zero, List.set_cons_succ]
                          refine wpAnyH_takeD (i := 4) (v := ?_) rfl (by kernel_rfl) (by kernel_rfl) (by kernel_rfl) (fun _ _ _ h => h) (Or.inl ⟨by kernel_rfl, ?_⟩) hS ?_
                          rotate_left 1
                          · (intro w' hSw; (try dsimp only at hSw); go_simp; try (with_reducible rfl))
                          try simp only [Act.put, List.setIfInBounds_toArray, List.set_cons_zero, List.set_cons_succ]
                          refine wpAnyH_takeD (i := 5) (v := ?_) rfl (by kernel_rfl) (by kernel_rfl) (by kernel_rfl) (fun _ _ _ h => h) (Or.inl ⟨by kernel_rfl, ?_⟩) hS ?_
                          rotate_left 1
                          · (intro w' hSw; (try dsimp only at hSw); go_simp; try (with_reducible rfl))
                          try simp only [Act.put, List.setIfInBounds_toArray, List.set_cons_zero, List.set_cons_succ]
                          refine wpAnyH_takeD (i := 6) (v := ?_) rfl (by kernel_rfl) (by kernel_rfl) (by kernel_rfl) (fun _ _ _ h => h) (Or.inl ⟨by kernel_rfl, ?_⟩) hS ?_
                          rotate_left 1
                          · (intro w' hSw; (try dsimp only at hSw); go_simp; try (with_reducible rfl))
                          try simp only [Act.put, List.setIfInBounds_toArray, List.set_cons_zero, List.set_cons_succ]
                          refine wpAnyH_takeD (i := 7) (v := ?_) rfl (by kernel_rfl) (by kernel_rfl) (by kernel_rfl) (fun _ _ _ h => h) (Or.inl ⟨by kernel_rfl, ?_⟩) hS ?_
                          rotate_left 1
                          · (intro w' hSw; (try dsimp only at hSw); go_simp; try (with_reducible rfl))
                          try simp only [Act.put, List.setIfInBounds_toArray, List.set_cons_zero, List.set_cons_succ]
                          refine wpAnyH_takeD (i := 8) (v := ?_) rfl (by kernel_rfl) (by kernel_rfl) (by kernel_rfl) (fun _ _ _ h => h) (Or.inl ⟨by kernel_rfl, ?_⟩) hS ?_
                          rotate_left 1
                          · (intro w' hSw; (try dsimp only at hSw); go_simp; try (with_reducible rfl))
                          try simp only [Act.put, List.setIfInBounds_toArray, List.set_cons_zero, List.set_cons_succ]
                          refine wpAnyH_takeD (i := 9) (v := ?_) rfl (by kernel_rfl) (by kernel_rfl) (by kernel_rfl) (fun _ _ _ h => h) (Or.inl ⟨by kernel_rfl, ?_⟩) hS ?_
                          rotate_left 1
                          · (intro w' hSw; (try dsimp only at hSw); go_simp; try (with_reducible rfl))
                          try simp only [Act.put, List.setIfInBounds_toArray, List.set_cons_zero, List.set_cons_succ]
                          refine wpAnyH_takeD (i := 10) (v := ?_) rfl (by kernel_rfl) (by kernel_rfl) (by kernel_rfl) (fun _ _ _ h => h) (Or.inl ⟨by kernel_rfl, ?_⟩) hS ?_
                          rotate_left 1
                          · (intro w' hSw; (try dsimp only at hSw); go_simp; try (with_reducible rfl))
                          try simp only [Act.put, List.setIfInBounds_toArray, List.set_cons_zero, List.set_cons_succ]
                          refine wpAnyH_oneD (i := 11) rfl (by kernel_rfl) (fun K hK => ?_)
                          rw [if_pos (by kernel_rfl)]
                          go_simp
                          refine (of_any A' n' c' s x _ B HNN.out (hrow.below (hbv0.trans ((Below.drew (Below.refl wr.heap.size wr)).mono (by omega))) hB0)).mono ?_
                          rintro e w6 ⟨rfl, hb5'⟩
                          have hb5v : Below wr.heap.size wr w6 := below_undrew hb5'
                          have k0 := (hb5v.cell (p := ⟨b, o + k, none⟩) (show b < wr.heap.size by omega)).trans hc
                          have k1 := (hb5v.cell (p := ⟨w.heap.size + 1, 1, none⟩) (show w.heap.size + 1 < wr.heap.size by omega)).trans f1
                          have k2 := (hb5v.cell (p := ⟨b2, o2 + m, none⟩) (show b2 < wr.heap.size by omega)).trans hcm
                          go_wp2_with fail
                          refine hK.out _ _ ⟨k0, k1, k2⟩ (fun hS => ?_)
                          clear hK
                          try simp only [Act.put, List.setIfInBounds_toArray, List.set_cons_zero, List.set_cons_succ]
                          refine wpAnyH_takeD (i := 12) (v := ?_) rfl (by kernel_rfl) (by kernel_rfl) (by kernel_rfl) (fun _ _ _ h => h) (Or.inl ⟨by kernel_rfl, ?_⟩) hS ?_
                          rotate_left 1
                          · (intro w' hSw; (try dsimp only at hSw); go_simp; try (with_reducible rfl))
                          try simp only [Act.put, List.setIfInBounds_toArray, List.set_cons_zero, List.set_cons_succ]
                          refine wpAnyH_takeD (i := 13) (v := ?_) rfl (by kernel_rfl) (by kernel_rfl) (by kernel_rfl) (fun _ _ _ h => h) (Or.inl ⟨by kernel_rfl, ?_⟩) hS ?_
                          rotate_left 1
                          · (intro w' hSw; (try dsimp only at hSw); go_simp; try (with_reducible rfl))
                          try simp only [Act.put, List.setIfInBounds_toArray, List.set_cons_zero, List.set_cons_succ]
                          refine wpAnyH_done (by kernel_rfl) ?_ _
                          have HB5' := Lib.hid (HBV.out.trans (hb5v.mono HBV.out.size))
                          clear hb5v hb5' k0 k1 k2 hc f1 hcm
                          go_wp2
                          go_roundw
                          case rel => exact ⟨m + 1, by omega, by go_num, by rw [HMS.out, Bool.false_or], HB5'.out⟩
                          case measure => simp [intOf]; omega
                        · have HB5' := Lib.hid (HBV.out.trans ((Below.drew (Below.refl _ _)).mono HBV.out.size))
                          go_wp2_with fail
                          refine wp_region_held_drew (S := fun w' => True ∧ True) (by kernel_rfl) ⟨trivial, trivial⟩ (fun hS => ?_)
                          refine wpAnyH_takeD (i := 0) (v := ?_) rfl (by kernel_rfl) (by kernel_rfl) (by kernel_rfl) (fun _ _ _ h => h) (Or.inl ⟨by kernel_rfl, ?_⟩) hS ?_
                          rotate_left 1
                          · (intro w' hSw; (try dsimp only at hSw); go_simp; try (with_reducible rfl))
                          try simp only [Act.put, List.setIfInBounds_toArray, List.set_cons_zero, List.set_cons_succ]
                          refine wpAnyH_takeD (i := 1) (v := ?_) rfl (by kernel_rfl) (by kernel_rfl) (by kernel_rfl) (fun _ _ _ h => h) (Or.inl ⟨by kernel_rfl, ?_⟩) hS ?_
                          rotate_left 1
                          · (intro w' hSw; (try dsimp only at hSw); go_simp; try (with_reducible rfl))
                          try simp only [Act.put, List.setIfInBounds_toArray, List.set_cons_zero, List.set_cons_succ]
                          refine wpAnyH_takeD (i := 2) (v := undef) rfl (by kernel_rfl) (by kernel_rfl) (by kernel_rfl) (fun _ _ _ h => h) (Or.inr ⟨by kernel_rfl, rfl⟩) hS ?_
                          try simp only [Act.put, List.setIfInBounds_toArray, List.set_cons_zero, List.set_cons_succ]
                          refine wpAnyH_takeD (i := 3) (v := undef) rfl (by kernel_rfl) (by kernel_rfl) (by kernel_rfl) (fun _ _ _ h => h) (Or.inr ⟨by kernel_rfl, rfl⟩) hS ?_
                          try simp only [Act.put, List.setIfInBounds_toArray, List.set_cons_zero, List.set_cons_succ]
                          refine wpAnyH_takeD (i := 4) (v := undef) rfl (by kernel_rfl) (by kernel_rfl) (by kernel_rfl) (fun _ _ _ h => h) (Or.inr ⟨by kernel_rfl, rfl⟩) hS ?_
                          try simp only [Act.put, List.setIfInBounds_toArray, List.set_cons_zero, List.set_cons_succ]
                          refine wpAnyH_takeD (i := 5) (v := undef) rfl (by kernel_rfl) (by kernel_rfl) (by kernel_rfl) (fun _ _ _ h => h) (Or.inr ⟨by kernel_rfl, rfl⟩) hS ?_
                          try simp only [Act.put, List.setIfInBounds_toArray, List.set_cons_zero, List.set_cons_succ]
                          refine wpAnyH_takeD (i := 6) (v := undef) rfl (by kernel_rfl) (by kernel_rfl) (by kernel_rfl) (fun _ _ _ h => h) (Or.inr ⟨by kernel_rfl, rfl⟩) hS ?_
                          try simp only [Act.put, List.setIfInBounds_toArray, List.set_cons_zero, List.set_cons_succ]
                          refine wpAnyH_takeD (i := 7) (v := undef) rfl (by kernel_rfl) (by kernel_rfl) (by kernel_rfl) (fun _ _ _ h => h) (Or.inr ⟨by kernel_rfl, rfl⟩) hS ?_
                          try simp only [Act.put, List.setIfInBounds_toArray, List.set_cons_zero, List.set_cons_succ]
                          refine wpAnyH_takeD (i := 8) (v := undef) rfl (by kernel_rfl) (by kernel_rfl) (by kernel_rfl) (fun _ _ _ h => h) (Or.inr ⟨by kernel_rfl, rfl⟩) hS ?_
                          try simp only [Act.put, List.setIfInBounds_toArray, List.set_cons_zero, List.set_cons_succ]
                          refine wpAnyH_takeD (i := 9) (v := undef) rfl (by kernel_rfl) (by kernel_rfl) (by kernel_rfl) (fun _ _ _ h => h) (Or.inr ⟨by kernel_rfl, rfl⟩) hS ?_
                          try simp only [Act.put, List.setIfInBounds_toArray, List.set_cons_zero, List.set_cons_succ]
                          refine wpAnyH_takeD (i := 10) (v := undef) rfl (by kernel_rfl) (by kernel_rfl) (by kernel_rfl) (fun _ _ _ h => h) (Or.inr ⟨by kernel_rfl, rfl⟩) hS ?_
                          try simp only [Act.put, List.setIfInBounds_toArray, List.set_cons_zero, List.set_cons_succ]
                          refine wpAnyH_takeD (i := 11) (v := undef) rfl (by kernel_rfl) (by kernel_rfl) (by kernel_rfl) (fun _ _ _ h => h) (Or.inr ⟨by kernel_rfl, rfl⟩) hS ?_
                          try simp only [Act.put, List.setIfInBounds_toArray, List.set_cons_zero, List.set_cons_succ]
                          refine wpAnyH_takeD (i := 12) (v := ?_) rfl (by kernel_rfl) (by kernel_rfl) (by kernel_rfl) (fun _ _ _ h => h) (Or.inl ⟨by kernel_rfl, ?_⟩) hS ?_
                          rotate_left 1
                          · (intro w' hSw; (try dsimp only at hSw); go_simp; try (with_reducible rfl))
                          try simp only [Act.put, List.setIfInBounds_toArray, List.set_cons_zero, List.set_cons_succ]
                          refine wpAnyH_takeD (i := 13) (v := ?_) rfl (by kernel_rfl) (by kernel_rfl) (by kernel_rfl) (fun _ _ _ h => h) (Or.inl ⟨by kernel_rfl, ?_⟩) hS ?_
                          rotate_left 1
                          · (intro w' hSw; (try dsimp only at hSw); go_simp; try (with_reducible rfl))
                          try simp only [Act.put, List.setIfInBounds_toArray, List.set_cons_zero, List.set_cons_succ]
                          refine wpAnyH_done (by kernel_rfl) ?_ _
                          go_wp2
                          go_roundw
                          case rel => exact ⟨m + 1, by omega, by go_num, by rw [HMS.out, Bool.true_or], HB5'.out⟩
                          case measure => simp [intOf]; omega
                      · have hmn : metB (loop.take m) s = metB loop s := by rw [List.take_of_length_le (by rw [← HN2.out]; omega)]
                        rw [hmn]
                        have HBV := Lib.hid (HBz.out.trans (hbv.mono HBz.out.size))
                        have HBV2 := Lib.hid (HBZ.out.trans (hbv.mono HBZ.out.size))
                        clear hmn hbv hc
                        cases hmt : metB loop s
                        · have HMT := Lib.hid hmt
                          clear hmt
                          go_wp2
                          go_ret
                          exact ⟨ret_bool (by simp [HIS.out, HSO.out HMT.out]), HBV2.out⟩
                        · have HMT := Lib.hid hmt
                          clear hmt
                          go_wp2
                          go_roundw
                          case rel => exact ⟨k + 1, by omega, by go_num, HBV.out, Lib.hid (by rw [HSA.out, hal.out, HMT.out]; rfl)⟩
                          case measure => simp [intOf]; omega
                  · have hkn : k = ns := by omega
                    have HAL : Hid (sets.all (metB loop) = true) := Lib.hid (by have := hal.out; rwa [List.take_of_length_le (by rw [← HSN.out]; omega)] at this)
                    clear hkn f1 hal
                    go_wp2
                    go_ret
                    exact ⟨ret_bool (by simp [HIS.out, HCH.out, HAL.out]), HBZ.out⟩
end
end Go.Proofs.Ytfpncpjdmgfkbaa
