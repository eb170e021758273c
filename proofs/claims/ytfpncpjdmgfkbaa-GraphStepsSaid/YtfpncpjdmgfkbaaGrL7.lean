/- The law GraphSteps. -/
import Derived.Test.YtfpncpjdmgfkbaaGrL0
namespace Go.Proofs.Ytfpncpjdmgfkbaa
open Go.RowKit

theorem any_snoc {α : Type} {l : List α} {p : α → Bool} {k : Nat} (hk : k < l.length) : (l.take (k + 1)).any p = ((l.take k).any p || p l[k]) := by
  rw [take_snoc l k hk, List.any_append]; simp
/-- What is known of a path that is told. -/
structure Told (n : Nat) (E : List (List Nd)) (goal : List Bool) (from_ L : List Int) : Prop where
  one : 1 ≤ L.length
  le : L.length ≤ n
  nd : ∀ (i : Nat) x, L[i]? = some x → isNd n x = true
  ed : ∀ (i : Nat) x y, L[i]? = some x → L[i + 1]? = some y → y ∈ tgts (E.getD x.toNat [])
  gl : ∀ (i : Nat) x, L[i]? = some x → goal.getD x.toNat false = decide (i + 1 = L.length)
  new : ∀ (i j : Nat) x y, i < j → L[i]? = some x → L[j]? = some y → x ≠ y
  from_ : ∃ x, L[0]? = some x ∧ x ∈ from_
theorem told_of {n : Nat} {E : List (List Nd)} {goal : List Bool} {from_ : List Int} (hn : n = E.length) (h : (pathG n (farG n (turnE E) (goalsG n goal)) E from_).2 = true) : Told n E goal from_ (pathG n (farG n (turnE E) (goalsG n goal)) E from_).1 := by
  subst hn
  have hD := farE_Dn E goal
  have hok := farE_ok E goal
  change Dn E.length (farG E.length (turnE E) (goalsG E.length goal)) E at hD
  have hhi : ∀ i : Nat, i < E.length → (farG E.length (turnE E) (goalsG E.length goal)).getD i 0 < (E.length : Int) := fun i hi => hok.hi i hi
  have hz : ∀ i : Nat, i < E.length → ((farG E.length (turnE E) (goalsG E.length goal)).getD i 0 = 0 ↔ goal.getD i false = true) := fun i hi => (hok.zero i hi).trans (goalsG_mem hi)
  generalize farG E.length (turnE E) (goalsG E.length goal) = D at *
  rw [pathG] at h ⊢
  split at h
  · cases h
  · rename_i hb
    rw [if_neg hb]
    rcases bestG_ok (n := E.length) (D := D) from_ with h0 | ⟨h1, h2, h3⟩
    · rw [h0] at hb; omega
    · have hp := pathW_ok hD (D.getD (bestG E.length D from_).toNat 0).toNat (bestG E.length D from_) h1 (by omega)
      have h4 := isNd_iff.1 h1
      have h5 := hhi (bestG E.length D from_).toNat (by omega)
      have hh := pathW_head (n := E.length) (D := D) (E := E) (D.getD (bestG E.length D from_).toNat 0).toNat (bestG E.length D from_)
      dsimp only
      generalize hK : (D.getD (bestG E.length D from_).toNat 0).toNat = K at *
      generalize hL : pathW E.length D E K (bestG E.length D from_) = L at *
      refine ⟨by rw [hp.len]; omega, by rw [hp.len]; omega, fun i x hx => (hp.nd i x hx).1, hp.ed, fun i x hx => ?_, fun i j x y hij hx hy e => ?_, ⟨_, hh, h3⟩⟩
      · obtain ⟨a, b⟩ := hp.nd i x hx
        have hx1 := isNd_iff.1 a
        have hzx := hz x.toNat (by omega)
        rw [b] at hzx
        have hil := (List.getElem?_eq_some_iff.1 hx).1
        rw [hp.len] at hil ⊢
        rw [Bool.eq_iff_iff, ← hzx]
        simp; omega
      · subst e
        have a := (hp.nd i x hx).2
        have b := (hp.nd j x hy).2
        omega
/-- What the law has marked. -/
def Marks (n : Nat) (s : List Bool) (L : List Int) (i : Nat) : Prop := s.length = n ∧ ∀ t : Nat, t < n → (s.getD t false = true ↔ (t : Int) ∈ L.take i)
theorem marks_zero (n : Nat) (L : List Int) : Marks n (List.replicate n false) L 0 := ⟨by simp, fun t ht => by simp [List.getD, ht]⟩
theorem marks_snoc {n : Nat} {s : List Bool} {L : List Int} {i t : Nat} (h : Marks n s L i) (hi : i < L.length) (ht : L[i] = (t : Int)) (htn : t < n) : Marks n (s.set t true) L (i + 1) := by
  refine ⟨by simp [h.1], fun u hu => ?_⟩
  rw [take_snoc L i hi, List.mem_append, List.mem_singleton, ht]
  by_cases e : t = u
  · subst e
    rw [getD_set_same (by rw [h.1]; exact htn)]
    simp
  · rw [getD_set_ne' e, h.2 u hu]
    constructor
    · exact .inl
    · rintro (h | h)
      · exact h
      · omega
theorem marks_new {n : Nat} {E : List (List Nd)} {goal : List Bool} {from_ L : List Int} {s : List Bool} {i t : Nat} (hT : Told n E goal from_ L) (h : Marks n s L i) (hi : i < L.length) (ht : L[i] = (t : Int)) (htn : t < n) : s.getD t false = false := by
  have hn := h.2 t htn
  cases hs : s.getD t false
  · rfl
  · exfalso
    have hm := hn.1 hs
    obtain ⟨j, hj⟩ := List.getElem?_of_mem hm
    have hjl := (List.getElem?_eq_some_iff.1 hj).1
    rw [List.length_take] at hjl
    rw [List.getElem?_take, if_pos (by omega)] at hj
    exact hT.new j i _ _ (by omega) hj (by rw [List.getElem?_eq_getElem hi, ht]) rfl

set_option maxHeartbeats 2000000 in
set_option maxRecDepth 100000 in
theorem GraphSteps_any (ai ae al : Option Addr) (ni ci ne ce nl cl : Nat) (A : Option Addr) (n c : Nat) (A2 : Option Addr) (n2 c2 : Nat) (G : Gph) (from_ : List Int) (goal : List Bool) (w : World) (B : Nat) (hG : GrRd w B ai ni ci ae ne ce al nl cl G) (hF : Sl w B 1 A n c (icells from_)) (hn : n = from_.length) (hL : Sl w B 1 A2 n2 c2 (goal.map .bool)) (hn2 : n2 = goal.length) (hB : B ≤ w.heap.size) (hx1 : n ≤ 17592186044416) (hx2 : n2 ≤ 140737488351232) :
    Calls Try.prog 7 #[.agg #[.slice ai ni ci, .slice ae ne ce, .slice al nl cl], .slice A n c, .slice A2 n2 c2] w (Tru w true) := by
  subst hn
  subst hn2
  obtain ⟨w0, hw0, hb0, hz0, g0, g1, g2⟩ := boxed3 w (.slice ai ni ci) (.slice ae ne ce) (.slice al nl cl) 26
  have HW0 := Lib.hid hw0
  have hG0 := hG.below hb0 hB
  have hF0 := hF.below hb0 hB
  have hL0 := hL.below hb0 hB
  have hB0 : B ≤ w0.heap.size := by omega
  have hzg : w.heap.size < w0.heap.size := by omega
  clear hw0 hG hF hL hz0
  go_enter Try.func7, Try.ntmps7
  go_wp2_with fail
  rw [← HW0.out]
  refine (heavy_any ai ae al ni ci ne ce nl cl G w0 B hG0 hB0).mono ?_
  rintro e wa ⟨rfl, hba⟩
  have hza := hba.size
  clear HW0
  cases hv : heavyG G
  · by_cases hc1 : 100 < from_.length
    · have d1 : decide ((100 : Int) < (from_.length : Int)) = true := by simp; omega
      go_wp2_with fail
      refine (awake_any _).mono ?_
      rintro e wc ⟨rfl, hbc⟩
      go_wp2
      go_ret
      exact ⟨rfl, hb0.trans ((hba.trans (hbc.mono hza)).mono (by omega))⟩
    · have d1 : decide ((100 : Int) < (from_.length : Int)) = false := by simp; omega
      by_cases hc2 : 400 < goal.length
      · have d2 : decide ((400 : Int) < (goal.length : Int)) = true := by simp; omega
        go_wp2_with fail
        refine (awake_any _).mono ?_
        rintro e wc ⟨rfl, hbc⟩
        go_wp2
        go_ret
        exact ⟨rfl, hb0.trans ((hba.trans (hbc.mono hza)).mono (by omega))⟩
      · have d2 : decide ((400 : Int) < (goal.length : Int)) = false := by simp; omega
        obtain ⟨k1, k2, k3, kr, k4⟩ := lens_bd hG0 hv
        have ga0 := (hba.cell (p := ⟨w.heap.size, 0, none⟩) hzg).trans g0
        have ga1 := (hba.cell (p := ⟨w.heap.size, 1, none⟩) hzg).trans g1
        have ga2 := (hba.cell (p := ⟨w.heap.size, 2, none⟩) hzg).trans g2
        have hGa := hG0.below hba hB0
        have hFa := hF0.below hba hB0
        have hLa := hL0.below hba hB0
        have HB1 := Lib.hid (hb0.trans (hba.mono (by omega)))
        have hzg' : w.heap.size < wa.heap.size := by omega
        have hB1 : B ≤ wa.heap.size := by omega
        have L2 := hG0.lens.2.1
        clear hv g0 g1 g2 hG0 hF0 hL0 hba hzg hB0 hza hb0 w0 hx1 hx2
        obtain ⟨w0, rfl⟩ : ∃ W, W = wa := ⟨_, rfl⟩
        have g0 := ga0
        have g1 := ga1
        have g2 := ga2
        have hzg := hzg'
        have hG0 := hGa
        have hF0 := hFa
        have hL0 := hLa
        have hB0 := hB1
        have HL2 := Lib.hid L2
        clear ga0 ga1 ga2 hzg' hGa hFa hLa hB1 L2
        have HP1 := Lib.hid (pathP_any ai ae al ni ci ne ce nl cl G from_ goal A _ c A2 _ c2 w0 B hG0 hF0 rfl hL0 rfl hB0 (by omega) (by omega) (by omega) (by omega) (by omega) 50 kr k4 (by omega))
        go_wp2_with fail
        refine Calls.mono HP1.out ?_
        rintro e w1 ⟨v1, rfl, ho1, hb1⟩
        have hz1 := hb1.size
        have p0 := (hb1.cell (p := ⟨w.heap.size, 0, none⟩) hzg).trans g0
        have p1 := (hb1.cell (p := ⟨w.heap.size, 1, none⟩) hzg).trans g1
        have p2 := (hb1.cell (p := ⟨w.heap.size, 2, none⟩) hzg).trans g2
        have htold := fun h => told_of (E := G.edges) (goal := goal) (from_ := from_) HL2.out h
        have hnil : (pathG ne (farG ne (turnE G.edges) (goalsG ne goal)) G.edges from_).2 = false → (pathG ne (farG ne (turnE G.edges) (goalsG ne goal)) G.edges from_).1 = [] := fun h => by
          rw [pathG] at h ⊢
          split at h
          · rename_i hb; rw [if_pos hb]
          · cases h
        generalize pathG ne (farG ne (turnE G.edges) (goalsG ne goal)) G.edges from_ = pp at *
        obtain ⟨L, ok⟩ := pp
        dsimp only at *
        cases ok
        · have hLn := hnil rfl
          subst hLn
          obtain ⟨A1, c1, rfl, _⟩ := own_sl ho1
          clear ho1 htold hnil HP1
          simp only [List.length_nil]
          go_wp2_with fail
          refine (awake_any _).mono ?_
          rintro e wz ⟨rfl, hbz⟩
          go_wp2
          go_ret
          exact ⟨rfl, HB1.out.trans ((hb1.trans (hbz.mono hb1.size)).mono (by omega))⟩
        · have hT := htold rfl
          clear htold hnil HP1 g0 g1 g2
          have hT1 := hT.one
          have hT2 := hT.le
          obtain ⟨y0, hy0, hy0f⟩ := hT.from_
          have HT := Lib.hid hT
          obtain ⟨gL, capL, rfl, hgL, hgL2, _⟩ := own_form ho1 (by omega)
          have hl0 := ho1.cellAt 0 (by omega)
          have hmk := run_make_row' (P := Try.prog) 35 4 (.bool false) 1 Try.underlying35 infoBool rfl .i64 .i64 ne (by omega) (by omega)
          have d3 : ((L.length : Int) == 0) = false := by rw [beq_eq_false_iff_ne]; omega
          have d4 : decide (ne < L.length) = false := by simp; omega
          have hq0 : (w1.alloc (.cells (madeCells #[.bool false] ne) 4)).ownsRow w1.heap.size 4 1 (.slice (some ⟨w1.heap.size, 0, none⟩) ne ne) ne ((List.replicate ne false).map .bool) := by
            rw [List.map_replicate]; exact own_made (Nat.le_refl _) (by unfold maxLen; omega)
          have hbq : Below w1.heap.size w1 (w1.alloc (.cells (madeCells #[.bool false] ne) 4)) := below_alW _
          have HO1 := Lib.hid ho1
          have HQ0 := Lib.hid hq0
          have hy0' : (icells L)[0]? = some (.int .i64 y0) := by rw [icells, List.getElem?_map, hy0]; rfl
          rw [hy0'] at hl0
          have HY0 := Lib.hid hy0
          have HY0F := Lib.hid hy0f
          clear ho1 hq0 hT hy0 hy0' hy0f
          go_wp2
          clear hmk d3 d4
          generalize hwq : w1.alloc (.cells (madeCells #[.bool false] ne) 4) = wq at *
          have hzq : w1.heap.size + 1 ≤ wq.heap.size := by rw [← hwq]; simp
          clear hwq
          go_loopw [10, 11] (fun v i wr => ∃ k : Nat, k ≤ from_.length ∧ i = .int .i64 k ∧ v = .bool ((from_.take k).any (fun z => z == y0)) ∧ Below wq.heap.size wq wr) (fun _ i _ => from_.length - (intOf i).toNat)
          case atStart => exact ⟨0, by omega, rfl, rfl, Below.refl _ _⟩
          case round =>
            obtain ⟨k, hk, rfl, rfl, hbr⟩ := hrel
            have hb1r : Below w1.heap.size w1 wr := hbq.trans (hbr.mono (by omega))
            have hb0r : Below w0.heap.size w0 wr := hb1.trans (hb1r.mono hz1)
            have hzr := hbr.size
            have hl0' := (hb1r.cell (p := ⟨gL, 0, none⟩) hgL2).trans hl0
            by_cases hlt : k < from_.length
            · obtain ⟨bf, of_, rfl, hbf, hc0⟩ := rd_int (hF0.rd.below hb0r hB0) hlt
              have hsn := any_snoc (p := fun z => z == y0) hlt
              generalize from_[k] = x at *
              have j0 : (0 : Int) ≤ (k : Int) := by omega
              have j1 : (k : Int) < (from_.length : Int) := by omega
              have hLp : 0 < L.length := by omega
              cases hacc : (from_.take k).any (fun z => z == y0)
              all_goals
                have HSN := Lib.hid hsn
                have HACC := Lib.hid hacc
                clear hsn hacc hl0
                go_wp2_with fail
              · skip
                refine wp_region_held_drew (S := fun w' => w'.cell? ⟨bf, of_ + k, none⟩ = some (.int .i64 x) ∧ w'.cell? ⟨gL, 0, none⟩ = some (.int .i64 y0)) (by kernel_rfl) ⟨hc0, hl0'⟩ (fun hS => ?_)
                refine wpAnyH_takeD (i := 0) (v := ?_) rfl (by kernel_rfl) (by kernel_rfl) (by kernel_rfl) (fun _ _ _ h => h) (Or.inl ⟨by kernel_rfl, ?_⟩) hS ?_
                rotate_left 1
                · (intro w' hSw; (try dsimp only at hSw); go_simp; try (with_reducible rfl))
                try simp only [Act.put, List.setIfInBounds_toArray, List.set_cons_zero, List.set_cons_succ]
                refine wpAnyH_takeD (i := 1) (v := ?_) rfl (by kernel_rfl) (by kernel_rfl) (by kernel_rfl) (fun _ _ _ h => h) (Or.inl ⟨by kernel_rfl, ?_⟩) hS ?_
                rotate_left 1
                · (intro w' hSw; (try dsimp only at hSw); go_simp; try (with_reducible rfl))
                try simp only [Act.put, List.setIfInBounds_toArray, List.set_cons_zero, List.set_cons_succ]
                refine wpAnyH_takeD (i := 2) (v := ?_) rfl (by kernel_rfl) (by kernel_rfl) (by kernel_rfl) (fun _ _ _ h => h) (Or.inl ⟨by kernel_rfl, ?_⟩) hS ?_
                rotate_left 1
                · (intro w' hSw; (try dsimp only at hSw); go_simp; try (with_reducible rfl))
                try simp only [Act.put, List.setIfInBounds_toArray, List.set_cons_zero, List.set_cons_succ]
                refine wpAnyH_takeD (i := 3) (v := ?_) rfl (by kernel_rfl) (by kernel_rfl) (by kernel_rfl) (fun _ _ _ h => h) (Or.inl ⟨by kernel_rfl, ?_⟩) hS ?_
                rotate_left 1
                · (intro w' hSw; (try dsimp only at hSw); go_simp; try (with_reducible rfl))
                try simp only [Act.put, List.setIfInBounds_toArray, List.set_cons_zero, List.set_cons_succ]
                refine wpAnyH_takeD (i := 4) (v := ?_) rfl (by kernel_rfl) (by kernel_rfl) (by kernel_rfl) (fun _ _ _ h => h) (Or.inl ⟨by kernel_rfl, ?_⟩) hS ?_
                rotate_left 1
                · (intro w' hSw; (try dsimp only at hSw); go_simp; try (with_reducible rfl))
                try simp only [Act.put, List.setIfInBounds_toArray, List.set_cons_zero, List.set_cons_succ]
                refine wpAnyH_takeD (i := 5) (v := ?_) rfl (by kernel_rfl) (by kernel_rfl) (by kernel_rfl) (fun _ _ _ h => h) (Or.inl ⟨by kernel_rfl, ?_⟩) hS ?_
                rotate_left 1
                · (intro w' hSw; (try dsimp only at hSw); go_simp; try (with_reducible rfl))
                try simp only [Act.put, List.setIfInBounds_toArray, List.set_cons_zero, List.set_cons_succ]
                refine wpAnyH_takeD (i := 6) (v := ?_) rfl (by kernel_rfl) (by kernel_rfl) (by kernel_rfl) (fun _ _ _ h => h) (Or.inl ⟨by kernel_rfl, ?_⟩) hS ?_
                rotate_left 1
                · (intro w' hSw; (try dsimp only at hSw); go_simp; try (with_reducible rfl))
                try simp only [Act.put, List.setIfInBounds_toArray, List.set_cons_zero, List.set_cons_succ]
                refine wpAnyH_takeD (i := 7) (v := ?_) rfl (by kernel_rfl) (by kernel_rfl) (by kernel_rfl) (fun _ _ _ h => h) (Or.inl ⟨by kernel_rfl, ?_⟩) hS ?_
                rotate_left 1
                · (intro w' hSw; (try dsimp only at hSw); go_simp; try (with_reducible rfl))
                try simp only [Act.put, List.setIfInBounds_toArray, List.set_cons_zero, List.set_cons_succ]
                refine wpAnyH_takeD (i := 8) (v := ?_) rfl (by kernel_rfl) (by kernel_rfl) (by kernel_rfl) (fun _ _ _ h => h) (Or.inl ⟨by kernel_rfl, ?_⟩) hS ?_
                rotate_left 1
                · (intro w' hSw; (try dsimp only at hSw); go_simp; try (with_reducible rfl))
                try simp only [Act.put, List.setIfInBounds_toArray, List.set_cons_zero, List.set_cons_succ]
                refine wpAnyH_takeD (i := 9) (v := ?_) rfl (by kernel_rfl) (by kernel_rfl) (by kernel_rfl) (fun _ _ _ h => h) (Or.inl ⟨by kernel_rfl, ?_⟩) hS ?_
                rotate_left 1
                · (intro w' hSw; (try dsimp only at hSw); go_simp; try (with_reducible rfl))
                try simp only [Act.put, List.setIfInBounds_toArray, List.set_cons_zero, List.set_cons_succ]
                refine wpAnyH_takeD (i := 10) (v := ?_) rfl (by kernel_rfl) (by kernel_rfl) (by kernel_rfl) (fun _ _ _ h => h) (Or.inl ⟨by kernel_rfl, ?_⟩) hS ?_
                rotate_left 1
                · (intro w' hSw; (try dsimp only at hSw); go_simp; try (with_reducible rfl))
                try simp only [Act.put, List.setIfInBounds_toArray, List.set_cons_zero, List.set_cons_succ]
                refine wpAnyH_takeD (i := 11) (v := ?_) rfl (by kernel_rfl) (by kernel_rfl) (by kernel_rfl) (fun _ _ _ h => h) (Or.inl ⟨by kernel_rfl, ?_⟩) hS ?_
                rotate_left 1
                · (intro w' hSw; (try dsimp only at hSw); go_simp; try (with_reducible rfl))
                try simp only [Act.put, List.setIfInBounds_toArray, List.set_cons_zero, List.set_cons_succ]
                refine wpAnyH_done (by kernel_rfl) ?_ _
                go_wp2
                go_roundw
                case rel => exact ⟨k + 1, by omega, by go_num, by rw [HSN.out, HACC.out, Bool.false_or], hbr.trans (Below.drew (Below.refl _ _) |>.mono hzr)⟩
                case measure => simp [intOf]; omega
              · skip
                refine wp_region_held_drew (S := fun w' => w'.cell? ⟨bf, of_ + k, none⟩ = some (.int .i64 x) ∧ w'.cell? ⟨gL, 0, none⟩ = some (.int .i64 y0)) (by kernel_rfl) ⟨hc0, hl0'⟩ (fun hS => ?_)
                refine wpAnyH_takeD (i := 0) (v := ?_) rfl (by kernel_rfl) (by kernel_rfl) (by kernel_rfl) (fun _ _ _ h => h) (Or.inl ⟨by kernel_rfl, ?_⟩) hS ?_
                rotate_left 1
                · (intro w' hSw; (try dsimp only at hSw); go_simp; try (with_reducible rfl))
                try simp only [Act.put, List.setIfInBounds_toArray, List.set_cons_zero, List.set_cons_succ]
                refine wpAnyH_takeD (i := 1) (v := ?_) rfl (by kernel_rfl) (by kernel_rfl) (by kernel_rfl) (fun _ _ _ h => h) (Or.inl ⟨by kernel_rfl, ?_⟩) hS ?_
                rotate_left 1
                · (intro w' hSw; (try dsimp only at hSw); go_simp; try (with_reducible rfl))
                try simp only [Act.put, List.setIfInBounds_toArray, List.set_cons_zero, List.set_cons_succ]
                refine wpAnyH_takeD (i := 2) (v := undef) rfl (by kernel_rfl) (by kernel_rfl) (by kernel_rfl) (fun _ _ _ h => h) (Or.inr ⟨by kernel_rfl, rfl⟩) hS ?_
                try simp only [Act.put, List.setIfInBounds_toArray, List.set_cons_zero, List.set_cons_succ]
                refine wpAnyH_takeD (i := 3) (v := undef) rfl (by kernel_rfl) (by kernel_rfl) (by kernel_rfl) (fun _ _ _ h => h) (Or.inr ⟨by kernel_rfl, rfl⟩) hS ?_
                try simp only [Act.put, List.setIfInBounds_toArray, List.set_cons_zero, List.set_cons_succ]
                refine wpAnyH_takeD (i := 4) (v := undef) rfl (by kernel_rfl) (by kernel_rfl) (by kernel_rfl) (fun _ _ _ h => h) (Or.inr ⟨by kernel_rfl, rfl⟩) hS ?_
                try simp only [Act.put, List.setIfInBounds_toArray, List.set_cons_zero, List.set_cons_succ]
                refine wpAnyH_takeD (i := 5) (v := undef) rfl (by kernel_rfl) (by kernel_rfl) (by kernel_rfl) (fun _ _ _ h => h) (Or.inr ⟨by kernel_rfl, rfl⟩) hS ?_
                try simp only [Act.put, List.setIfInBounds_toArray, List.set_cons_zero, List.set_cons_succ]
                refine wpAnyH_takeD (i := 6) (v := undef) rfl (by kernel_rfl) (by kernel_rfl) (by kernel_rfl) (fun _ _ _ h => h) (Or.inr ⟨by kernel_rfl, rfl⟩) hS ?_
                try simp only [Act.put, List.setIfInBounds_toArray, List.set_cons_zero, List.set_cons_succ]
                refine wpAnyH_takeD (i := 7) (v := undef) rfl (by kernel_rfl) (by kernel_rfl) (by kernel_rfl) (fun _ _ _ h => h) (Or.inr ⟨by kernel_rfl, rfl⟩) hS ?_
                try simp only [Act.put, List.setIfInBounds_toArray, List.set_cons_zero, List.set_cons_succ]
                refine wpAnyH_takeD (i := 8) (v := undef) rfl (by kernel_rfl) (by kernel_rfl) (by kernel_rfl) (fun _ _ _ h => h) (Or.inr ⟨by kernel_rfl, rfl⟩) hS ?_
                try simp only [Act.put, List.setIfInBounds_toArray, List.set_cons_zero, List.set_cons_succ]
                refine wpAnyH_takeD (i := 9) (v := undef) rfl (by kernel_rfl) (by kernel_rfl) (by kernel_rfl) (fun _ _ _ h => h) (Or.inr ⟨by kernel_rfl, rfl⟩) hS ?_
                try simp only [Act.put, List.setIfInBounds_toArray, List.set_cons_zero, List.set_cons_succ]
                refine wpAnyH_takeD (i := 10) (v := ?_) rfl (by kernel_rfl) (by kernel_rfl) (by kernel_rfl) (fun _ _ _ h => h) (Or.inl ⟨by kernel_rfl, ?_⟩) hS ?_
                rotate_left 1
                · (intro w' hSw; (try dsimp only at hSw); go_simp; try (with_reducible rfl))
                try simp only [Act.put, List.setIfInBounds_toArray, List.set_cons_zero, List.set_cons_succ]
                refine wpAnyH_takeD (i := 11) (v := ?_) rfl (by kernel_rfl) (by kernel_rfl) (by kernel_rfl) (fun _ _ _ h => h) (Or.inl ⟨by kernel_rfl, ?_⟩) hS ?_
                rotate_left 1
                · (intro w' hSw; (try dsimp only at hSw); go_simp; try (with_reducible rfl))
                try simp only [Act.put, List.setIfInBounds_toArray, List.set_cons_zero, List.set_cons_succ]
                refine wpAnyH_done (by kernel_rfl) ?_ _
                go_wp2
                go_roundw
                case rel => exact ⟨k + 1, by omega, by go_num, by rw [HSN.out, HACC.out, Bool.true_or], hbr.trans (Below.drew (Below.refl _ _) |>.mono hzr)⟩
                case measure => simp [intOf]; omega
            · have hall : (from_.take k).any (fun z => z == y0) = true := by
                rw [List.take_of_length_le (by omega), List.any_eq_true]
                exact ⟨y0, HY0F.out, by simp⟩
              rw [hall]
              have hq1 := own_below HQ0.out hbr
              have hM0 := marks_zero ne L
              clear hall hl0' hF0
              obtain ⟨wB, rfl⟩ : ∃ W, W = wr := ⟨_, rfl⟩
              go_wp2
              go_loopw [12] (fun i wr => ∃ (k : Nat) (s : List Bool), k ≤ L.length ∧ i = .int .i64 k ∧ Marks ne s L k ∧ wr.ownsRow w1.heap.size 4 1 (.slice (some ⟨w1.heap.size, 0, none⟩) ne ne) ne (s.map .bool) ∧ Below w1.heap.size w1 wr) (fun i _ => L.length - (intOf i).toNat)
              case atStart => exact ⟨0, _, by omega, rfl, hM0, hq1, hb1r⟩
              case round =>
                clear hM0 hq1 hb1r hb0r hzr
                obtain ⟨k, s, hk, rfl, hM, hown, hbr⟩ := hrel
                have hb0r : Below w0.heap.size w0 wr := hb1.trans (hbr.mono hz1)
                have hzr := hbr.size
                have HB := Lib.hid hbr
                have HB0 := Lib.hid hb0r
                by_cases hlt : k < L.length
                · have hnd := HT.out.nd k L[k] (List.getElem?_eq_getElem hlt)
                  have hgv := HT.out.gl k L[k] (List.getElem?_eq_getElem hlt)
                  have hed := fun y (hy : L[k + 1]? = some y) => HT.out.ed k L[k] y (List.getElem?_eq_getElem hlt) hy
                  have hlc := HO1.out.cellAt k (by omega)
                  rw [icells, List.getElem?_map, List.getElem?_eq_getElem hlt] at hlc
                  simp only [Option.map_some] at hlc
                  have hnew := fun (t : Nat) (ht : L[k] = (t : Int)) (htn : t < ne) => marks_new HT.out hM hlt ht htn
                  have hsno := fun (t : Nat) (ht : L[k] = (t : Int)) (htn : t < ne) => marks_snoc hM hlt ht htn
                  generalize L[k] = n at *
                  obtain ⟨t, rfl, htn⟩ := isNd_nat hnd
                  have hnw := hnew t rfl htn
                  have hM1 := hsno t rfl htn
                  clear hnew hsno
                  rw [Int.toNat_natCast] at hgv hed
                  have hlc' := (hbr.cell (p := ⟨gL, k, none⟩) hgL2).trans hlc
                  obtain ⟨m0, m1, hqw, _⟩ := own_marks hown htn
                  rw [hnw] at m0
                  have htE : t < G.edges.length := by rw [← HL2.out]; exact htn
                  obtain ⟨be, oe, A', n', c', rfl, hbb, hrc0, hrow⟩ := hG0.he.at_ (ed_take htE)
                  have hlen := kr G.edges[t] (List.getElem_mem htE)
                  have hnx : n' = G.edges[t].length := by have := hrow.len; rw [ncells_len] at this; omega
                  have hxr : G.edges.getD t [] = G.edges[t] := by simp [List.getD, htE]
                  rw [hxr] at hed
                  generalize G.edges[t] = x at *
                  subst hnx
                  have i0 : (0 : Int) ≤ (t : Int) := by omega
                  have i1 : (t : Int) < (ne : Int) := by omega
                  have q0 := (hbr.cell (p := ⟨w.heap.size, 0, none⟩) (by show w.heap.size < w1.heap.size; omega)).trans p0
                  have q1 := (hbr.cell (p := ⟨w.heap.size, 1, none⟩) (by show w.heap.size < w1.heap.size; omega)).trans p1
                  have q2 := (hbr.cell (p := ⟨w.heap.size, 2, none⟩) (by show w.heap.size < w1.heap.size; omega)).trans p2
                  have HM1 := Lib.hid hM1
                  have HGV := Lib.hid hgv
                  have HED := Lib.hid hed
                  have HND := Lib.hid hnd
                  have HOWN := Lib.hid hown
                  clear hM hM1 hgv hed hnd hown hnw hxr hlc
                  go_wp2_with fail
                  refine (nodeR_any ai _ al ni ci ne ce nl cl (t : Int) wr).mono ?_
                  rw [HND.out]
                  rintro e w2 ⟨rfl, hb2⟩
                  have hz2 := hb2.size
                  have hown2 := own_below HOWN.out hb2
                  obtain ⟨n0, n1, hqw2, _⟩ := own_marks hown2 htn
                  have hmk2 := own_mark (w0 := w1) (t := t) hown2
                  have hb12 : Below w1.heap.size w1 w2 := HB.out.trans (hb2.mono hzr)
                  have n0' := (hb2.cell (p := ⟨w1.heap.size, t, none⟩) hqw).trans m0
                  have r1 := (hb12.cell (p := ⟨w.heap.size, 1, none⟩) (by show w.heap.size < w1.heap.size; omega)).trans p1
                  have hb02 : Below w0.heap.size w0 w2 := hb1.trans (hb12.mono hz1)
                  have hrc := (hb02.cell (p := ⟨be, oe + t, none⟩) (show be < w0.heap.size by omega)).trans hrc0
                  have hbs : Below w1.heap.size w1 (w2.setCell ⟨w1.heap.size, t, none⟩ (.bool true)) := hb12.setCell (p := ⟨w1.heap.size, t, none⟩) (Nat.le_refl _) _
                  have HMK := Lib.hid hmk2
                  have HBS := Lib.hid hbs
                  have h1w2 : w1.heap.size < w2.heap.size := by omega
                  clear n0 m0 m1 hmk2 hbs hown2 q0 q1 q2 hlc' hb0r
                  have s1 := (World.cell?_setCell_far w2 ⟨w1.heap.size, t, none⟩ ⟨w.heap.size, 1, none⟩ (.bool true) (by show w1.heap.size ≠ w.heap.size; omega)).trans r1
                  have s2 := (World.cell?_setCell_far w2 ⟨w1.heap.size, t, none⟩ ⟨be, oe + t, none⟩ (.bool true) (by show w1.heap.size ≠ be; omega)).trans hrc
                  by_cases hlast : k + 1 = L.length
                  · have hg1 : goal.getD t false = true := by rw [HGV.out]; simpa using hlast
                    have htg : t < goal.length := by
                      by_cases h : t < goal.length
                      · exact h
                      · simp [List.getD, List.getElem?_eq_none (by omega : goal.length ≤ t)] at hg1
                    obtain ⟨bg, og, rfl, hbg, hgc0⟩ := hL0.rd.at_ (bcells'_at htg)
                    rw [hg1] at hgc0
                    have hgc := (hb02.cell (p := ⟨bg, og + t, none⟩) (show bg < w0.heap.size by omega)).trans hgc0
                    have d5 : decide ((t : Int) < (goal.length : Int)) = true := by simp; omega
                    have d6 : ((k : Int) == (L.length : Int) - 1) = true := by rw [beq_iff_eq]; omega
                    have d7 : ((k : Int) + 1 == (L.length : Int)) = true := by rw [beq_iff_eq]; omega
                    clear hg1 hgc0 hlast
                    go_wp2
                    clear d5 d6 d7 hgc n0' r1 hrc
                    go_loopw [14, 15] (fun v i wr => v = .bool true ∧ i = .int .i64 0 ∧ wr = w2.setCell ⟨w1.heap.size, t, none⟩ (.bool true)) (fun _ _ _ => 0)
                    case atStart => exact ⟨rfl, rfl, rfl⟩
                    case round =>
                      obtain ⟨rfl, rfl, rfl⟩ := hrel
                      go_wp2
                      all_goals
                        go_roundw
                        case rel => exact ⟨k + 1, _, by omega, by go_num, HM1.out, HMK.out, HBS.out⟩
                        case measure => simp [intOf]; omega
                  · have hg1 : goal.getD t false = false := by rw [HGV.out]; simpa using hlast
                    have hk2 : k + 1 < L.length := by omega
                    have d6 : ((k : Int) == (L.length : Int) - 1) = false := by rw [beq_eq_false_iff_ne]; omega
                    have d7 : ((k : Int) + 1 == (L.length : Int)) = false := by rw [beq_eq_false_iff_ne]; omega
                    have hgcell : decide (t < goal.length) = false ∨ (t < goal.length ∧ decide (t < goal.length) = true ∧ ∃ bg og, A2 = some ⟨bg, og, none⟩ ∧ w2.cell? ⟨bg, og + t, none⟩ = some (.bool false)) := by
                      by_cases htg : t < goal.length
                      · obtain ⟨bg, og, e1, hbg, hgc0⟩ := hL0.rd.at_ (bcells'_at htg)
                        rw [hg1] at hgc0
                        exact .inr ⟨htg, by simp; omega, bg, og, e1, (hb02.cell (p := ⟨bg, og + t, none⟩) (show bg < w0.heap.size by omega)).trans hgc0⟩
                      · exact .inl (by simp; omega)
                    have hly0 := HO1.out.cellAt (k + 1) (by omega)
                    rw [icells, List.getElem?_map, List.getElem?_eq_getElem hk2] at hly0
                    simp only [Option.map_some] at hly0
                    have hey := HED.out L[k + 1] (List.getElem?_eq_getElem hk2)
                    generalize L[k + 1] = y at *
                    have HEY := Lib.hid hey
                    have hw1 : IntKind.i64.wrap ((k : Int) + 1) = (k : Int) + 1 := IntWalk.i64_in _ (by omega)
                    have hw2 : ((k : Int) + 1).toNat = k + 1 := by omega
                    have HW2 := Lib.hid hw2
                    have HW1 := Lib.hid hw1
                    clear hg1 hlast hey hw1 hw2
                    rcases hgcell with d5 | ⟨htg, d5, bg, og, rfl, hgc⟩
                    all_goals
                      go_wp2
                      clear d5 d6 d7 n0' r1 hrc
                      try clear hgc
                      generalize w2.setCell ⟨w1.heap.size, t, none⟩ (.bool true) = ws at *
                      go_loopw [14, 15] (fun v i wr => ∃ m : Nat, m ≤ x.length ∧ i = .int .i64 m ∧ v = .bool ((x.take m).any (fun e => e.op == y)) ∧ Below ws.heap.size ws wr) (fun _ i _ => x.length - (intOf i).toNat)
                      case atStart => exact ⟨0, by omega, rfl, rfl, Below.refl _ _⟩
                      case round =>
                        obtain ⟨m, hm, rfl, rfl, hbi⟩ := hrel
                        have hzi := hbi.size
                        have hb1i : Below w1.heap.size w1 wr := HBS.out.trans (hbi.mono HBS.out.size)
                        have hb0i : Below w0.heap.size w0 wr := hb1.trans (hb1i.mono hz1)
                        have gm1 := (hb1i.cell (p := ⟨w.heap.size, 1, none⟩) (by show w.heap.size < w1.heap.size; omega)).trans p1
                        have gmr := (hb0i.cell (p := ⟨be, oe + t, none⟩) (show be < w0.heap.size by omega)).trans hrc0
                        have hly := (hb1i.cell (p := ⟨gL, k + 1, none⟩) hgL2).trans hly0
                        cases hacc : (x.take m).any (fun e => e.op == y)
                        · by_cases hltm : m < x.length
                          · obtain ⟨bb, oo, rfl, hbbb, hd0, _⟩ := rd_nd (hrow.rd.below hb0i hB0) hltm
                            have hsn := any_snoc (p := fun e : Nd => e.op == y) hltm
                            generalize hop : x[m].op = op at *
                            have HSN := Lib.hid hsn
                            have HACC := Lib.hid hacc
                            have HOP := Lib.hid hop
                            have k0 : (0 : Int) ≤ (m : Int) := by omega
                            have k1 : (m : Int) < (x.length : Int) := by omega
                            have l0 : (0 : Int) ≤ (k : Int) + 1 := by omega
                            have l1 : (k : Int) + 1 < (L.length : Int) := by omega
                            clear hsn hacc hop s1 s2
                            go_wp2_with fail
                            have hw1 := HW1.out
                            have hw2 := HW2.out
                            refine wp_region_held_drew (S := fun w' => w'.cell? ⟨w.heap.size, 1, none⟩ = some (.slice (some ⟨be, oe, none⟩) ne ce) ∧ w'.cell? ⟨be, oe + t, none⟩ = some (.slice (some ⟨bb, oo, none⟩) x.length c') ∧ w'.cell? ⟨bb, oo + m * 2, none⟩ = some (.int .i64 op) ∧ w'.cell? ⟨gL, k + 1, none⟩ = some (.int .i64 y)) (by kernel_rfl) ⟨gm1, gmr, hd0, hly⟩ (fun hS => ?_)
                            refine wpAnyH_takeD (i := 0) (v := ?_) rfl (by kernel_rfl) (by kernel_rfl) (by kernel_rfl) (fun _ _ _ h => h) (Or.inl ⟨by kernel_rfl, ?_⟩) hS ?_
                            rotate_left 1
                            · (intro w' hSw; (try dsimp only at hSw); go_simp; try (with_reducible rfl))
                            try simp only [Act.put, List.setIfInBounds_toArray, List.set_cons_zero, List.set_cons_succ]
                            refine wpAnyH_takeD (i := 1) (v := ?_) rfl (by kernel_rfl) (by kernel_rfl) (by kernel_rfl) (fun _ _ _ h => h) (Or.inl ⟨by kernel_rfl, ?_⟩) hS ?_
                            rotate_left 1
                            · (intro w' hSw; (try dsimp only at hSw); go_simp; try (with_reducible rfl))
                            try simp only [Act.put, List.setIfInBounds_toArray, List.set_cons_zero, List.set_cons_succ]
                            refine wpAnyH_takeD (i := 2) (v := ?_) rfl (by kernel_rfl) (by kernel_rfl) (by kernel_rfl) (fun _ _ _ h => h) (Or.inl ⟨by kernel_rfl, ?_⟩) hS ?_
                            rotate_left 1
                            · (intro w' hSw; (try dsimp only at hSw); go_simp; try (with_reducible rfl))
                            try simp only [Act.put, List.setIfInBounds_toArray, List.set_cons_zero, List.set_cons_succ]
                            refine wpAnyH_takeD (i := 3) (v := ?_) rfl (by kernel_rfl) (by kernel_rfl) (by kernel_rfl) (fun _ _ _ h => h) (Or.inl ⟨by kernel_rfl, ?_⟩) hS ?_
                            rotate_left 1
                            · (intro w' hSw; (try dsimp only at hSw); go_simp; try (with_reducible rfl))
                            try simp only [Act.put, List.setIfInBounds_toArray, List.set_cons_zero, List.set_cons_succ]
                            refine wpAnyH_takeD (i := 4) (v := ?_) rfl (by kernel_rfl) (by kernel_rfl) (by kernel_rfl) (fun _ _ _ h => h) (Or.inl ⟨by kernel_rfl, ?_⟩) hS ?_
                            rotate_left 1
                            · (intro w' hSw; (try dsimp only at hSw); go_simp; try (with_reducible rfl))
                            try simp only [Act.put, List.setIfInBounds_toArray, List.set_cons_zero, List.set_cons_succ]
                            refine wpAnyH_takeD (i := 5) (v := ?_) rfl (by kernel_rfl) (by kernel_rfl) (by kernel_rfl) (fun _ _ _ h => h) (Or.inl ⟨by kernel_rfl, ?_⟩) hS ?_
                            rotate_left 1
                            · (intro w' hSw; (try dsimp only at hSw); go_simp; try (with_reducible rfl))
                            try simp only [Act.put, List.setIfInBounds_toArray, List.set_cons_zero, List.set_cons_succ]
                            refine wpAnyH_takeD (i := 6) (v := ?_) rfl (by kernel_rfl) (by kernel_rfl) (by kernel_rfl) (fun _ _ _ h => h) (Or.inl ⟨by kernel_rfl, ?_⟩) hS ?_
                            rotate_left 1
                            · (intro w' hSw; (try dsimp only at hSw); go_simp; try (with_reducible rfl))
                            try simp only [Act.put, List.setIfInBounds_toArray, List.set_cons_zero, List.set_cons_succ]
                            refine wpAnyH_takeD (i := 7) (v := ?_) rfl (by kernel_rfl) (by kernel_rfl) (by kernel_rfl) (fun _ _ _ h => h) (Or.inl ⟨by kernel_rfl, ?_⟩) hS ?_
                            rotate_left 1
                            · (intro w' hSw; (try dsimp only at hSw); go_simp; try (with_reducible rfl))
                            try simp only [Act.put, List.setIfInBounds_toArray, List.set_cons_zero, List.set_cons_succ]
                            refine wpAnyH_takeD (i := 8) (v := ?_) rfl (by kernel_rfl) (by kernel_rfl) (by kernel_rfl) (fun _ _ _ h => h) (Or.inl ⟨by kernel_rfl, ?_⟩) hS ?_
                            rotate_left 1
                            · (intro w' hSw; (try dsimp only at hSw); go_simp; try (with_reducible rfl))
                            try simp only [Act.put, List.setIfInBounds_toArray, List.set_cons_zero, List.set_cons_succ]
                            refine wpAnyH_takeD (i := 9) (v := ?_) rfl (by kernel_rfl) (by kernel_rfl) (by kernel_rfl) (fun _ _ _ h => h) (Or.inl ⟨by kernel_rfl, ?_⟩) hS ?_
                            rotate_left 1
                            · (intro w' hSw; (try dsimp only at hSw); go_simp; try (with_reducible rfl))
                            try simp only [Act.put, List.setIfInBounds_toArray, List.set_cons_zero, List.set_cons_succ]
                            refine wpAnyH_takeD (i := 10) (v := ?_) rfl (by kernel_rfl) (by kernel_rfl) (by kernel_rfl) (fun _ _ _ h => h) (Or.inl ⟨by kernel_rfl, ?_⟩) hS ?_
                            rotate_left 1
                            · (intro w' hSw; (try dsimp only at hSw); go_simp; try (with_reducible rfl))
                            try simp only [Act.put, List.setIfInBounds_toArray, List.set_cons_zero, List.set_cons_succ]
                            refine wpAnyH_takeD (i := 11) (v := ?_) rfl (by kernel_rfl) (by kernel_rfl) (by kernel_rfl) (fun _ _ _ h => h) (Or.inl ⟨by kernel_rfl, ?_⟩) hS ?_
                            rotate_left 1
                            · (intro w' hSw; (try dsimp only at hSw); go_simp; try (with_reducible rfl))
                            try simp only [Act.put, List.setIfInBounds_toArray, List.set_cons_zero, List.set_cons_succ]
                            refine wpAnyH_takeD (i := 12) (v := ?_) rfl (by kernel_rfl) (by kernel_rfl) (by kernel_rfl) (fun _ _ _ h => h) (Or.inl ⟨by kernel_rfl, ?_⟩) hS ?_
                            rotate_left 1
                            · (intro w' hSw; (try dsimp only at hSw); go_simp; try (with_reducible rfl))
                            try simp only [Act.put, List.setIfInBounds_toArray, List.set_cons_zero, List.set_cons_succ]
                            refine wpAnyH_takeD (i := 13) (v := ?_) rfl (by kernel_rfl) (by kernel_rfl) (by kernel_rfl) (fun _ _ _ h => h) (Or.inl ⟨by kernel_rfl, ?_⟩) hS ?_
                            rotate_left 1
                            · (intro w' hSw; (try dsimp only at hSw); go_simp; try (with_reducible rfl))
                            try simp only [Act.put, List.setIfInBounds_toArray, List.set_cons_zero, List.set_cons_succ]
                            refine wpAnyH_takeD (i := 14) (v := ?_) rfl (by kernel_rfl) (by kernel_rfl) (by kernel_rfl) (fun _ _ _ h => h) (Or.inl ⟨by kernel_rfl, ?_⟩) hS ?_
                            rotate_left 1
                            · (intro w' hSw; (try dsimp only at hSw); go_simp; try (with_reducible rfl))
                            try simp only [Act.put, List.setIfInBounds_toArray, List.set_cons_zero, List.set_cons_succ]
                            refine wpAnyH_takeD (i := 15) (v := ?_) rfl (by kernel_rfl) (by kernel_rfl) (by kernel_rfl) (fun _ _ _ h => h) (Or.inl ⟨by kernel_rfl, ?_⟩) hS ?_
                            rotate_left 1
                            · (intro w' hSw; (try dsimp only at hSw); go_simp; try (with_reducible rfl))
                            try simp only [Act.put, List.setIfInBounds_toArray, List.set_cons_zero, List.set_cons_succ]
                            refine wpAnyH_done (by kernel_rfl) ?_ _
                            clear hw1 hw2
                            go_wp2
                            go_roundw
                            case rel => exact ⟨m + 1, by omega, by go_num, by rw [HSN.out, HACC.out, Bool.false_or], hbi.trans (Below.drew (Below.refl _ _) |>.mono hzi)⟩
                            case measure => simp [intOf]; omega
                          · exfalso
                            rw [List.take_of_length_le (by omega)] at hacc
                            have := HEY.out
                            simp only [tgts, List.mem_map] at this
                            obtain ⟨e, he, heq⟩ := this
                            have h2 := List.any_eq_false.1 hacc e he
                            simp [heq] at h2
                        · have hrowo := own_below HMK.out hbi
                          have HRO := Lib.hid hrowo
                          have HBI := Lib.hid hb1i
                          clear hacc hrowo hly s1 s2
                          go_wp2
                          all_goals
                            go_roundw
                            case rel => exact ⟨k + 1, _, by omega, by go_num, HM1.out, HRO.out, HBI.out⟩
                            case measure => simp [intOf]; omega
                · have hkl : k = L.length := by omega
                  clear hM hown
                  go_wp2_with fail
                  refine (awake_any _).mono ?_
                  rintro e wz ⟨rfl, hbz⟩
                  go_wp2
                  go_ret
                  exact ⟨rfl, HB1.out.trans ((hb0r.trans (hbz.mono hb0r.size)).mono (by omega))⟩
  · go_wp2_with fail
    refine (awake_any _).mono ?_
    rintro e wc ⟨rfl, hbc⟩
    go_wp2
    go_ret
    exact ⟨rfl, hb0.trans ((hba.trans (hbc.mono hza)).mono (by omega))⟩
end Go.Proofs.Ytfpncpjdmgfkbaa
