/- The law GraphPaths. -/
import Derived.Test.YtfpncpjdmgfkbaaGrL0
namespace Go.Proofs.Ytfpncpjdmgfkbaa
open Go.RowKit

theorem pathG_len {n : Nat} {D : List Int} {E : List (List Nd)} {from_ : List Int} (hD : Dn n D E) (hh : ∀ i : Nat, i < n → D.getD i 0 < (n : Int)) : (pathG n D E from_).1.length ≤ n := by
  rw [pathG]
  split
  · simp
  · rename_i hb
    rcases bestG_ok (n := n) (D := D) from_ with h | ⟨h1, h2, _⟩
    · rw [h] at hb; omega
    · have h3 := pathW_ok hD (D.getD (bestG n D from_).toNat 0).toNat (bestG n D from_) h1 (by omega)
      have h4 := isNd_iff.1 h1
      have h5 := hh (bestG n D from_).toNat (by omega)
      dsimp only
      rw [h3.len]; omega

set_option maxHeartbeats 2000000 in
set_option maxRecDepth 100000 in
theorem GraphPaths_any (ai ae al : Option Addr) (ni ci ne ce nl cl : Nat) (A : Option Addr) (n c : Nat) (A2 : Option Addr) (n2 c2 : Nat) (G : Gph) (from_ : List Int) (goal : List Bool) (w : World) (B : Nat) (hG : GrRd w B ai ni ci ae ne ce al nl cl G) (hF : Sl w B 1 A n c (icells from_)) (hn : n = from_.length) (hL : Sl w B 1 A2 n2 c2 (goal.map .bool)) (hn2 : n2 = goal.length) (hB : B ≤ w.heap.size) (hx1 : n ≤ 17592186044416) (hx2 : n2 ≤ 140737488351232) :
    Calls Try.prog 6 #[.agg #[.slice ai ni ci, .slice ae ne ce, .slice al nl cl], .slice A n c, .slice A2 n2 c2] w (Tru w true) := by
  subst hn
  subst hn2
  obtain ⟨w0, hw0, hb0, hz0, g0, g1, g2⟩ := boxed3 w (.slice ai ni ci) (.slice ae ne ce) (.slice al nl cl) 26
  have HW0 := Lib.hid hw0
  have hG0 := hG.below hb0 hB
  have hF0 := hF.below hb0 hB
  have hL0 := hL.below hb0 hB
  have hB0 : B ≤ w0.heap.size := by omega
  have hzg : w.heap.size < w0.heap.size := by omega
  clear hw0 hG hF hL hz0
  go_enter Try.func6, Try.ntmps6
  go_wp2_with fail
  rw [← HW0.out]
  refine (heavy_any ai ae al ni ci ne ce nl cl G w0 B hG0 hB0).mono ?_
  rintro e wa ⟨rfl, hba⟩
  have hza := hba.size
  clear HW0
  cases hv : heavyG G
  · by_cases hc1 : 100 < from_.length
    · have d1 : decide ((100 : Int) < (from_.length : Int)) = true := by simp; omega
      go_wp2_with fail
      refine (awake_any _).mono ?_
      rintro e wc ⟨rfl, hbc⟩
      go_wp2
      go_ret
      exact ⟨rfl, hb0.trans ((hba.trans (hbc.mono hza)).mono (by omega))⟩
    · have d1 : decide ((100 : Int) < (from_.length : Int)) = false := by simp; omega
      by_cases hc2 : 400 < goal.length
      · have d2 : decide ((400 : Int) < (goal.length : Int)) = true := by simp; omega
        go_wp2_with fail
        refine (awake_any _).mono ?_
        rintro e wc ⟨rfl, hbc⟩
        go_wp2
        go_ret
        exact ⟨rfl, hb0.trans ((hba.trans (hbc.mono hza)).mono (by omega))⟩
      · have d2 : decide ((400 : Int) < (goal.length : Int)) = false := by simp; omega
        obtain ⟨k1, k2, k3, kr, k4⟩ := lens_bd hG0 hv
        have ga0 := (hba.cell (p := ⟨w.heap.size, 0, none⟩) hzg).trans g0
        have ga1 := (hba.cell (p := ⟨w.heap.size, 1, none⟩) hzg).trans g1
        have ga2 := (hba.cell (p := ⟨w.heap.size, 2, none⟩) hzg).trans g2
        have hGa := hG0.below hba hB0
        have hFa := hF0.below hba hB0
        have hLa := hL0.below hba hB0
        have HB1 := Lib.hid (hb0.trans (hba.mono (by omega)))
        have hzg' : w.heap.size < wa.heap.size := by omega
        have hB1 : B ≤ wa.heap.size := by omega
        have L2 := hG0.lens.2.1
        clear hv g0 g1 g2 hG0 hF0 hL0 hba hzg hB0 hza hb0 w0 hx1 hx2
        obtain ⟨w0, rfl⟩ : ∃ W, W = wa := ⟨_, rfl⟩
        have g0 := ga0
        have g1 := ga1
        have g2 := ga2
        have hzg := hzg'
        have hG0 := hGa
        have hF0 := hFa
        have hL0 := hLa
        have hB0 := hB1
        have HL2 := Lib.hid L2
        clear ga0 ga1 ga2 hzg' hGa hFa hLa hB1 L2
        have hfar : ne = G.edges.length := HL2.out
        have hp1 := pathP_any ai ae al ni ci ne ce nl cl G from_ goal A _ c A2 _ c2 w0 B hG0 hF0 rfl hL0 rfl hB0 (by omega) (by omega) (by omega) (by omega) (by omega) 50 kr k4 (by omega)
        have HP1 := Lib.hid hp1
        clear hp1 hfar
        go_wp2_with fail
        refine Calls.mono HP1.out ?_
        rintro e w1 ⟨v1, rfl, ho1, hb1⟩
        have hz1 := hb1.size
        have p0 := (hb1.cell (p := ⟨w.heap.size, 0, none⟩) hzg).trans g0
        have p1 := (hb1.cell (p := ⟨w.heap.size, 1, none⟩) hzg).trans g1
        have p2 := (hb1.cell (p := ⟨w.heap.size, 2, none⟩) hzg).trans g2
        have HP2 := Lib.hid (pathR_any ai ae al ni ci ne ce nl cl G from_ goal A _ c A2 _ c2 w1 B (hG0.below hb1 hB0) (hF0.below hb1 hB0) rfl (hL0.below hb1 hB0) rfl (by omega) (by omega) (by omega) (by omega) (by omega) (by omega) 50 kr k4 (by omega))
        have HO1 := Lib.hid ho1
        clear ho1 HP1 g0 g1 g2
        go_wp2_with fail
        refine Calls.mono HP2.out ?_
        rintro e w2 ⟨v2, rfl, ho2, hb2⟩
        have hz2 := hb2.size
        obtain ⟨A1', c1', rfl, hs1⟩ := own_sl HO1.out
        obtain ⟨A2', c2', rfl, hs2⟩ := own_sl ho2
        have hpl : (pathG ne (farG ne (turnE G.edges) (goalsG ne goal)) G.edges from_).1.length ≤ 100000 := by
          have := pathG_len (n := ne) (from_ := from_) (E := G.edges) (D := farG ne (turnE G.edges) (goalsG ne goal)) (by rw [HL2.out]; exact farE_Dn _ _) (fun i hi => by rw [HL2.out] at hi ⊢; exact (farE_ok G.edges goal).hi i hi)
          omega
        generalize pathG ne (farG ne (turnE G.edges) (goalsG ne goal)) G.edges from_ = pp at *
        have HIN := Lib.hid (intsL_any A1' A2' _ c1' _ c2' pp.1 pp.1 w2 _ _ (hs1.below hb2 (Nat.le_refl _)) hs2 rfl rfl (by omega))
        clear hs1 hs2 ho2 HP2 HO1 p0 p1 p2
        go_wp2_with fail
        refine Calls.mono HIN.out ?_
        rintro e w3 ⟨rfl, nd, rfl⟩
        have hd1 : decide (pp.1 = pp.1) = true := by simp
        have hpe : (pp.2 == pp.2) = true := by simp
        go_wp2_with fail
        refine (awake_any _).mono ?_
        rintro e w4 ⟨rfl, hb4⟩
        go_wp2
        go_ret
        exact ⟨rfl, HB1.out.trans (((hb1.trans (hb2.mono hz1)).trans ((below_undrewN hb4).mono (by simp [World.drewN]; omega))).mono (by omega))⟩
  · go_wp2_with fail
    refine (awake_any _).mono ?_
    rintro e wc ⟨rfl, hbc⟩
    go_wp2
    go_ret
    exact ⟨rfl, hb0.trans ((hba.trans (hbc.mono hza)).mono (by omega))⟩
end Go.Proofs.Ytfpncpjdmgfkbaa
