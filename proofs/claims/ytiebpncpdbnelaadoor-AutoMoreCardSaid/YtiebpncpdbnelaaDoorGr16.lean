/- The walk of layer 6: Path (of the program). -/
import Derived.Test.YtiebpncpdbnelaaDoorGr14
import Derived.WalkMore
set_option maxHeartbeats 4000000
set_option maxRecDepth 100000
namespace Go.Proofs.YtiebpncpdbnelaaDoor
open Go.RowKit
section
variable (ai ae al : Option Addr) (ni ci ne ce nl cl : Nat)
theorem pathP_any (G : Gph) (from_ : List Int) (goal : List Bool) (A : Option Addr) (n c : Nat) (A2 : Option Addr) (n2 c2 : Nat) (w : World) (B : Nat) (h : GrRd w B ai ni ci ae ne ce al nl cl G) (hf : Sl w B 1 A n c (icells from_)) (hn : n = from_.length) (hs : Sl w B 1 A2 n2 c2 (goal.map .bool)) (hn2 : n2 = goal.length) (hB : B ≤ w.1.size) (hi : ni ≤ 1000000000) (he : ne ≤ 65536) (hl : nl ≤ 17592186044416) (hnl : n ≤ 1000000000) (hnl2 : n2 ≤ 1000000000) (KE : Nat) (hr : ∀ l ∈ G.edges, l.length ≤ KE) (hKE : ne * KE ≤ 1000000000) (hK2 : KE ≤ 1000000000) :
  Calls Tryd.prog 68 #[.agg #[.slice ai ni ci, .slice ae ne ce, .slice al nl cl], .slice A n c, .slice A2 n2 c2] w (PPost w (pathG ne (farG ne (turnE G.edges) (goalsG ne goal)) G.edges from_)) := by
 subst hn
 subst hn2
 obtain ⟨w0, hw0, hb0, hz0, hx0, hx1, hx2⟩ := boxed3 w (.slice ai ni ci) (.slice ae ne ce) (.slice al nl cl) 67
 have HW0 := dh hw0
 have h' := h.below hb0 hB
 have hf' := hf.below hb0 hB
 have hs' := hs.below hb0 hB
 have hzl : w.1.size < w0.1.size := by omega
 have hB0 : B ≤ w0.1.size := by omega
 have L2 := h.lens.2.1
 have H2 := dh L2
 have hDn : Dn ne (farG ne (turnE G.edges) (goalsG ne goal)) G.edges := by rw [L2]; exact farE_Dn G.edges goal
 have hDl : (farG ne (turnE G.edges) (goalsG ne goal)).length = ne := by rw [L2]; exact farE_len G.edges goal
 have hDh : ∀ i : Nat, i < ne → (farG ne (turnE G.edges) (goalsG ne goal)).getD i 0 < (ne : Int) := by rw [L2]; exact fun i hi => (farE_ok G.edges goal).hi i hi
 have HDN := dh hDn
 have HDL := dh hDl
 have HDH := dh hDh
 clear hw0 hz0 h hs hf L2 hDn hDl hDh
 go_enter Tryd.func68, Tryd.ntmps68
 go_wp2_with fail
 rw [← HW0.out]
 clear HW0
 go_step3
 go_wp2_with fail
 refine wp_region_held_drew (S := fun w' => w'.cell? ⟨w.1.size, 0, none⟩ = some (.slice ai ni ci) ∧ w'.cell? ⟨w.1.size, 1, none⟩ = some (.slice ae ne ce) ∧ w'.cell? ⟨w.1.size, 2, none⟩ = some (.slice al nl cl)) (by kernel_rfl) ⟨hx0, hx1, hx2⟩ (fun hS => ?_)
 refine tkH 0 ?_
 refine tkH 1 ?_
 refine tkH 2 ?_
 refine oneH 3 (fun K hK => ?_)
 go_simp
 refine (goals_any ai ae al ni ci ne ce nl cl A2 _ c2 (min goal.length ne) rfl goal _ B rfl (hs'.below (Below.drew bR) hB0) (show B ≤ w0.1.size by omega) (by omega) (by omega)).mono ?_
 rintro e wG ⟨vg, rfl, hown, hb', _⟩
 obtain ⟨Ag, cg, rfl, hsg⟩ := own_sl hown
 have hbG : Below w0.1.size w0 wG := below_undrew hb'
 have hzG := hbG.size
 clear hb'
 have p0 := bC hbG hzl hx0
 have p1 := bC hbG hzl hx1
 have p2 := bC hbG hzl hx2
 go_wp2_with fail
 refine hK.out _ _ ⟨p0, p1, p2⟩ (fun hS => ?_)
 clear hK
 refine oneH 4 (fun K hK => ?_)
 go_simp
 refine (dist_any ai ae al ni ci ne ce nl cl G (goalsG ne goal) Ag _ cg wG wG.1.size ((h'.below hbG hB0).up (by omega)) hsg rfl (goalsG_ok _ _) lR hi he hl KE hr hKE hK2).mono ?_
 rintro e w1 ⟨v8, rfl, hown8, hb8, _⟩
 obtain ⟨A8, c8, rfl, hs8⟩ := own_sl hown8
 have hb1 : Below w0.1.size w0 w1 := hbG.trans (hb8.mono hzG)
 have q0 := bC hb1 hzl hx0
 have q1 := bC hb1 hzl hx1
 have q2 := bC hb1 hzl hx2
 go_wp2_with fail
 refine hK.out _ _ ⟨q0, q1, q2⟩ (fun hS => ?_)
 clear hK
 refine tkH 5 ?_
 refine wpAnyH_done (by kernel_rfl) ?_ _
 clear hS hsg p0 p1 p2 hb8 hbG hown
 have h1 := h'.below hb1 hB0
 have hf1 := hf'.below hb1 hB0
 have hz1 := hb1.size
 have HB1 := dh hb1
 clear h' hf' hs' hx0 hx1 hx2 hown8 hb1
 generalize farG ne (turnE G.edges) (goalsG ne goal) = D at *
 go_wp2
 go_loopw [9, 23] (fun v i wr => ∃ k : Nat, k ≤ from_.length ∧ i = .int .i64 k ∧ v = .int .i64 (bestG ne D (from_.take k)) ∧ Below w1.1.size w1 wr) (fun _ i _ => from_.length - (intOf i).toNat)
 case atStart => exact ⟨0, by omega, rfl, rfl, bR⟩
 case round =>
  obtain ⟨k, hk, rfl, rfl, hbr⟩ := hrel
  have hzr := hbr.size
  have hzw : w.1.size < wr.1.size := by omega
  have f0 := bC hbr (by omega) q0
  have f1 := bC hbr (by omega) q1
  have f2 := bC hbr (by omega) q2
  by_cases hlt : k < from_.length
  ·obtain ⟨bf, of_, rfl, hbf, hc0⟩ := rd_int (hf1.rd.below hbr (by omega)) hlt
   have hsn := bestG_take (n := ne) (D := D) hlt
   have hbs := bestG_ok (n := ne) (D := D) (from_.take k)
   generalize from_[k] = x at *
   generalize bestG ne D (from_.take k) = a at *
   have HS := dh hsn
   clear hsn q0 q1 q2
   cases hnd : isNd ne x
   ·have hbx : bestStep ne D a x = a := by rw [bestStep, if_neg (by rw [hnd]; simp)]
    have HB := dh hbx
    have HND := dh hnd
    clear hnd hbx hbs
    go_wp2_with fail
    refine wp_region_held_drew (S := fun w' => w'.cell? ⟨w.1.size, 0, none⟩ = some (.slice ai ni ci) ∧ w'.cell? ⟨w.1.size, 1, none⟩ = some (.slice ae ne ce) ∧ w'.cell? ⟨w.1.size, 2, none⟩ = some (.slice al nl cl)) (by kernel_rfl) ⟨f0, f1, f2⟩ (fun hS => ?_)
    refine tkH 0 ?_
    refine tkH 1 ?_
    refine oneH 2 (fun K hK => ?_)
    go_simp
    refine (node_any ai _ al ni ci ne ce nl cl x _).mono ?_
    rw [HND.out]
    rintro e w2 ⟨rfl, hb2'⟩
    have hb2 : Below wr.1.size wr w2 := below_undrew hb2'
    have hz2 := hb2.size
    clear hb2'
    have p0 := bC hb2 hzw f0
    have p1 := bC hb2 hzw f1
    have p2 := bC hb2 hzw f2
    go_wp2_with fail
    refine hK.out _ _ ⟨p0, p1, p2⟩ (fun hS => ?_)
    clear hK
    refine tkH 3 ?_
    refine skH 4 ?_
    refine skH 5 ?_
    refine skH 6 ?_
    refine skH 7 ?_
    refine skH 8 ?_
    refine tkH 9 ?_
    refine tkH 10 ?_
    refine skH 11 ?_
    refine skH 12 ?_
    refine skH 13 ?_
    refine skH 14 ?_
    refine skH 15 ?_
    refine skH 16 ?_
    refine skH 17 ?_
    refine skH 18 ?_
    refine skH 19 ?_
    refine skH 20 ?_
    refine skH 21 ?_
    refine skH 22 ?_
    refine skH 23 ?_
    refine skH 24 ?_
    refine skH 25 ?_
    refine skH 26 ?_
    refine skH 27 ?_
    refine skH 28 ?_
    refine skH 29 ?_
    refine skH 30 ?_
    refine skH 31 ?_
    refine skH 32 ?_
    refine skH 33 ?_
    refine skH 34 ?_
    refine skH 35 ?_
    refine skH 36 ?_
    refine skH 37 ?_
    refine skH 38 ?_
    refine skH 39 ?_
    refine tkH 40 ?_
    refine wpAnyH_done (by kernel_rfl) ?_ _
    clear hS
    go_wp2
    go_roundw
    case rel => exact ⟨k + 1, by omega, by go_num, by rw [HS.out, HB.out], hbr.trans (hb2.mono hzr)⟩
    case measure => simp [intOf]; omega
   ·obtain ⟨t, rfl, htn⟩ := isNd_nat hnd
    have htl : t < D.length := by rw [HDL.out]; exact htn
    obtain ⟨b8, o8, rfl, hb8, hzc⟩ := rd_int (hs8.rd.below hbr lR) htl
    have hb8w : b8 < wr.1.size := by omega
    have hzd : D[t] = D.getD t 0 := by simp [List.getD, htl]
    have hzh := HDH.out t htn
    rw [hzd] at hzc
    have i0 : (0 : Int) ≤ (t : Int) := by omega
    have i1 : (t : Int) < (ne : Int) := by omega
    have HND := dh hnd
    by_cases hz : 0 ≤ D.getD t 0
    ·have dz : decide (0 ≤ D.getD t 0) = true := by simpa using hz
     rcases hbs with rfl | ⟨hna, hda, _⟩
     ·have hbx : bestStep ne D (-1) (t : Int) = (t : Int) := by rw [bestStep, if_pos ⟨⟨hnd, by simpa using hz⟩, .inl (by omega)⟩]
      have HB := dh hbx
      generalize D.getD t 0 = z at *
      clear hnd hbx hzd hz
      go_wp2_with fail
      refine wp_region_held_drew (S := fun w' => w'.cell? ⟨w.1.size, 0, none⟩ = some (.slice ai ni ci) ∧ w'.cell? ⟨w.1.size, 1, none⟩ = some (.slice ae ne ce) ∧ w'.cell? ⟨w.1.size, 2, none⟩ = some (.slice al nl cl) ∧ w'.cell? ⟨b8, o8 + t, none⟩ = some (.int .i64 z)) (by kernel_rfl) ⟨f0, f1, f2, hzc⟩ (fun hS => ?_)
      refine tkH 0 ?_
      refine tkH 1 ?_
      refine oneH 2 (fun K hK => ?_)
      go_simp
      refine (node_any ai _ al ni ci ne ce nl cl _ _).mono ?_
      rw [HND.out]
      rintro e w2 ⟨rfl, hb2'⟩
      have hb2 : Below wr.1.size wr w2 := below_undrew hb2'
      have hz2 := hb2.size
      clear hb2'
      have p0 := bC hb2 hzw f0
      have p1 := bC hb2 hzw f1
      have p2 := bC hb2 hzw f2
      have p3 := bC hb2 hb8w hzc
      go_wp2_with fail
      refine hK.out _ _ ⟨p0, p1, p2, p3⟩ (fun hS => ?_)
      clear hK
      refine tkH 3 ?_
      refine tkH 4 ?_
      refine tkH 5 ?_
      refine tkH 6 ?_
      refine tkH 7 ?_
      refine tkH 8 ?_
      refine tkH 9 ?_
      refine tkH 10 ?_
      refine tkH 11 ?_
      refine tkH 12 ?_
      refine tkH 13 ?_
      refine skH 14 ?_
      refine skH 15 ?_
      refine skH 16 ?_
      refine skH 17 ?_
      refine skH 18 ?_
      refine skH 19 ?_
      refine skH 20 ?_
      refine skH 21 ?_
      refine skH 22 ?_
      refine tkH 23 ?_
      refine tkH 24 ?_
      refine skH 25 ?_
      refine skH 26 ?_
      refine skH 27 ?_
      refine skH 28 ?_
      refine skH 29 ?_
      refine skH 30 ?_
      refine skH 31 ?_
      refine skH 32 ?_
      refine skH 33 ?_
      refine skH 34 ?_
      refine skH 35 ?_
      refine skH 36 ?_
      refine skH 37 ?_
      refine skH 38 ?_
      refine tkH 39 ?_
      refine tkH 40 ?_
      refine wpAnyH_done (by kernel_rfl) ?_ _
      clear hS
      go_wp2
      go_roundw
      case rel => exact ⟨k + 1, by omega, by go_num, by rw [HS.out, HB.out], hbr.trans (hb2.mono hzr)⟩
      case measure => simp [intOf]; omega
     ·obtain ⟨m, rfl, hmn⟩ := isNd_nat hna
      have hml : m < D.length := by rw [HDL.out]; exact hmn
      obtain ⟨b8', o8', he8, _, hyc⟩ := rd_int (hs8.rd.below hbr lR) hml
      cases he8
      have hyd : D[m] = D.getD m 0 := by simp [List.getD, hml]
      rw [hyd] at hyc
      have k0 : (0 : Int) ≤ (m : Int) := by omega
      have k1 : (m : Int) < (ne : Int) := by omega
      have hbe : bestStep ne D (m : Int) (t : Int) = if D.getD t 0 < D.getD m 0 ∨ (D.getD t 0 = D.getD m 0 ∧ (t : Int) < (m : Int)) then (t : Int) else (m : Int) := by
       rw [bestStep]
       simp only [tN]
       by_cases hc : D.getD t 0 < D.getD m 0 ∨ (D.getD t 0 = D.getD m 0 ∧ (t : Int) < (m : Int))
       ·rw [if_pos ⟨⟨hnd, hz⟩, .inr hc⟩, if_pos hc]
       ·rw [if_neg (fun h => hc (h.2.resolve_left (by omega))), if_neg hc]
      rw [tN] at hda
      have da : decide ((m : Int) < 0) = false := by simp
      generalize D.getD t 0 = z at *
      generalize D.getD m 0 = y at *
      have HBE := dh hbe
      clear hnd hzd hyd hz hna hbe
      by_cases h4 : z < y
      ·have d4 : decide (z < y) = true := by simpa using h4
       have HB := dh (show bestStep ne D (m : Int) (t : Int) = (t : Int) by rw [HBE.out, if_pos (.inl h4)])
       go_wp2_with fail
       refine wp_region_held_drew (S := fun w' => w'.cell? ⟨w.1.size, 0, none⟩ = some (.slice ai ni ci) ∧ w'.cell? ⟨w.1.size, 1, none⟩ = some (.slice ae ne ce) ∧ w'.cell? ⟨w.1.size, 2, none⟩ = some (.slice al nl cl) ∧ w'.cell? ⟨b8, o8 + t, none⟩ = some (.int .i64 z) ∧ w'.cell? ⟨b8, o8 + m, none⟩ = some (.int .i64 y)) (by kernel_rfl) ⟨f0, f1, f2, hzc, hyc⟩ (fun hS => ?_)
       refine tkH 0 ?_
       refine tkH 1 ?_
       refine oneH 2 (fun K hK => ?_)
       go_simp
       refine (node_any ai _ al ni ci ne ce nl cl _ _).mono ?_
       rw [HND.out]
       rintro e w2 ⟨rfl, hb2'⟩
       have hb2 : Below wr.1.size wr w2 := below_undrew hb2'
       have hz2 := hb2.size
       clear hb2'
       have p0 := bC hb2 hzw f0
       have p1 := bC hb2 hzw f1
       have p2 := bC hb2 hzw f2
       have p3 := bC hb2 hb8w hzc
       have p4 := bC hb2 hb8w hyc
       go_wp2_with fail
       refine hK.out _ _ ⟨p0, p1, p2, p3, p4⟩ (fun hS => ?_)
       clear hK
       refine tkH 3 ?_
       refine tkH 4 ?_
       refine tkH 5 ?_
       refine tkH 6 ?_
       refine tkH 7 ?_
       refine tkH 8 ?_
       refine tkH 9 ?_
       refine tkH 10 ?_
       refine tkH 11 ?_
       refine tkH 12 ?_
       refine tkH 13 ?_
       refine tkH 14 ?_
       refine tkH 15 ?_
       refine tkH 16 ?_
       refine tkH 17 ?_
       refine tkH 18 ?_
       refine tkH 19 ?_
       refine tkH 20 ?_
       refine tkH 21 ?_
       refine tkH 22 ?_
       refine tkH 23 ?_
       refine tkH 24 ?_
       refine skH 25 ?_
       refine skH 26 ?_
       refine skH 27 ?_
       refine skH 28 ?_
       refine skH 29 ?_
       refine skH 30 ?_
       refine skH 31 ?_
       refine skH 32 ?_
       refine skH 33 ?_
       refine skH 34 ?_
       refine skH 35 ?_
       refine skH 36 ?_
       refine skH 37 ?_
       refine skH 38 ?_
       refine tkH 39 ?_
       refine tkH 40 ?_
       refine wpAnyH_done (by kernel_rfl) ?_ _
       clear hS
       go_wp2
       go_roundw
       case rel => exact ⟨k + 1, by omega, by go_num, by rw [HS.out, HB.out], hbr.trans (hb2.mono hzr)⟩
       case measure => simp [intOf]; omega
      ·have d4 : decide (z < y) = false := by simpa using h4
       by_cases h5 : z = y
       ·have d5 : (z == y) = true := by simpa using h5
        by_cases h6 : t < m
        ·have d6 : decide ((t : Int) < (m : Int)) = true := by simp; omega
         have HB := dh (show bestStep ne D (m : Int) (t : Int) = (t : Int) by rw [HBE.out, if_pos (.inr ⟨h5, by omega⟩)])
         clear h5
         go_wp2_with fail
         refine wp_region_held_drew (S := fun w' => w'.cell? ⟨w.1.size, 0, none⟩ = some (.slice ai ni ci) ∧ w'.cell? ⟨w.1.size, 1, none⟩ = some (.slice ae ne ce) ∧ w'.cell? ⟨w.1.size, 2, none⟩ = some (.slice al nl cl) ∧ w'.cell? ⟨b8, o8 + t, none⟩ = some (.int .i64 z) ∧ w'.cell? ⟨b8, o8 + m, none⟩ = some (.int .i64 y)) (by kernel_rfl) ⟨f0, f1, f2, hzc, hyc⟩ (fun hS => ?_)
         refine tkH 0 ?_
         refine tkH 1 ?_
         refine oneH 2 (fun K hK => ?_)
         go_simp
         refine (node_any ai _ al ni ci ne ce nl cl _ _).mono ?_
         rw [HND.out]
         rintro e w2 ⟨rfl, hb2'⟩
         have hb2 : Below wr.1.size wr w2 := below_undrew hb2'
         have hz2 := hb2.size
         clear hb2'
         have p0 := bC hb2 hzw f0
         have p1 := bC hb2 hzw f1
         have p2 := bC hb2 hzw f2
         have p3 := bC hb2 hb8w hzc
         have p4 := bC hb2 hb8w hyc
         go_wp2_with fail
         refine hK.out _ _ ⟨p0, p1, p2, p3, p4⟩ (fun hS => ?_)
         clear hK
         refine tkH 3 ?_
         refine tkH 4 ?_
         refine tkH 5 ?_
         refine tkH 6 ?_
         refine tkH 7 ?_
         refine tkH 8 ?_
         refine tkH 9 ?_
         refine tkH 10 ?_
         refine tkH 11 ?_
         refine tkH 12 ?_
         refine tkH 13 ?_
         refine tkH 14 ?_
         refine tkH 15 ?_
         refine tkH 16 ?_
         refine tkH 17 ?_
         refine tkH 18 ?_
         refine tkH 19 ?_
         refine tkH 20 ?_
         refine tkH 21 ?_
         refine tkH 22 ?_
         refine tkH 23 ?_
         refine tkH 24 ?_
         refine tkH 25 ?_
         refine tkH 26 ?_
         refine tkH 27 ?_
         refine tkH 28 ?_
         refine tkH 29 ?_
         refine tkH 30 ?_
         refine tkH 31 ?_
         refine tkH 32 ?_
         refine tkH 33 ?_
         refine tkH 34 ?_
         refine tkH 35 ?_
         refine tkH 36 ?_
         refine tkH 37 ?_
         refine tkH 38 ?_
         refine tkH 39 ?_
         refine tkH 40 ?_
         refine wpAnyH_done (by kernel_rfl) ?_ _
         clear hS
         go_wp2
         go_roundw
         case rel => exact ⟨k + 1, by omega, by go_num, by rw [HS.out, HB.out], hbr.trans (hb2.mono hzr)⟩
         case measure => simp [intOf]; omega
        ·have d6 : decide ((t : Int) < (m : Int)) = false := by simp; omega
         have HB := dh (show bestStep ne D (m : Int) (t : Int) = (m : Int) by rw [HBE.out, if_neg (by rintro (h | ⟨_, h⟩) <;> omega)])
         clear h5
         go_wp2_with fail
         refine wp_region_held_drew (S := fun w' => w'.cell? ⟨w.1.size, 0, none⟩ = some (.slice ai ni ci) ∧ w'.cell? ⟨w.1.size, 1, none⟩ = some (.slice ae ne ce) ∧ w'.cell? ⟨w.1.size, 2, none⟩ = some (.slice al nl cl) ∧ w'.cell? ⟨b8, o8 + t, none⟩ = some (.int .i64 z) ∧ w'.cell? ⟨b8, o8 + m, none⟩ = some (.int .i64 y)) (by kernel_rfl) ⟨f0, f1, f2, hzc, hyc⟩ (fun hS => ?_)
         refine tkH 0 ?_
         refine tkH 1 ?_
         refine oneH 2 (fun K hK => ?_)
         go_simp
         refine (node_any ai _ al ni ci ne ce nl cl _ _).mono ?_
         rw [HND.out]
         rintro e w2 ⟨rfl, hb2'⟩
         have hb2 : Below wr.1.size wr w2 := below_undrew hb2'
         have hz2 := hb2.size
         clear hb2'
         have p0 := bC hb2 hzw f0
         have p1 := bC hb2 hzw f1
         have p2 := bC hb2 hzw f2
         have p3 := bC hb2 hb8w hzc
         have p4 := bC hb2 hb8w hyc
         go_wp2_with fail
         refine hK.out _ _ ⟨p0, p1, p2, p3, p4⟩ (fun hS => ?_)
         clear hK
         refine tkH 3 ?_
         refine tkH 4 ?_
         refine tkH 5 ?_
         refine tkH 6 ?_
         refine tkH 7 ?_
         refine tkH 8 ?_
         refine tkH 9 ?_
         refine tkH 10 ?_
         refine tkH 11 ?_
         refine tkH 12 ?_
         refine tkH 13 ?_
         refine tkH 14 ?_
         refine tkH 15 ?_
         refine tkH 16 ?_
         refine tkH 17 ?_
         refine tkH 18 ?_
         refine tkH 19 ?_
         refine tkH 20 ?_
         refine tkH 21 ?_
         refine tkH 22 ?_
         refine tkH 23 ?_
         refine tkH 24 ?_
         refine tkH 25 ?_
         refine tkH 26 ?_
         refine tkH 27 ?_
         refine tkH 28 ?_
         refine tkH 29 ?_
         refine tkH 30 ?_
         refine tkH 31 ?_
         refine tkH 32 ?_
         refine tkH 33 ?_
         refine tkH 34 ?_
         refine tkH 35 ?_
         refine tkH 36 ?_
         refine tkH 37 ?_
         refine tkH 38 ?_
         refine tkH 39 ?_
         refine tkH 40 ?_
         refine wpAnyH_done (by kernel_rfl) ?_ _
         clear hS
         go_wp2
         go_roundw
         case rel => exact ⟨k + 1, by omega, by go_num, by rw [HS.out, HB.out], hbr.trans (hb2.mono hzr)⟩
         case measure => simp [intOf]; omega
       ·have d5 : (z == y) = false := by simpa using h5
        have HB := dh (show bestStep ne D (m : Int) (t : Int) = (m : Int) by rw [HBE.out, if_neg (by rintro (h | ⟨h, _⟩) <;> omega)])
        clear h5
        go_wp2_with fail
        refine wp_region_held_drew (S := fun w' => w'.cell? ⟨w.1.size, 0, none⟩ = some (.slice ai ni ci) ∧ w'.cell? ⟨w.1.size, 1, none⟩ = some (.slice ae ne ce) ∧ w'.cell? ⟨w.1.size, 2, none⟩ = some (.slice al nl cl) ∧ w'.cell? ⟨b8, o8 + t, none⟩ = some (.int .i64 z) ∧ w'.cell? ⟨b8, o8 + m, none⟩ = some (.int .i64 y)) (by kernel_rfl) ⟨f0, f1, f2, hzc, hyc⟩ (fun hS => ?_)
        refine tkH 0 ?_
        refine tkH 1 ?_
        refine oneH 2 (fun K hK => ?_)
        go_simp
        refine (node_any ai _ al ni ci ne ce nl cl _ _).mono ?_
        rw [HND.out]
        rintro e w2 ⟨rfl, hb2'⟩
        have hb2 : Below wr.1.size wr w2 := below_undrew hb2'
        have hz2 := hb2.size
        clear hb2'
        have p0 := bC hb2 hzw f0
        have p1 := bC hb2 hzw f1
        have p2 := bC hb2 hzw f2
        have p3 := bC hb2 hb8w hzc
        have p4 := bC hb2 hb8w hyc
        go_wp2_with fail
        refine hK.out _ _ ⟨p0, p1, p2, p3, p4⟩ (fun hS => ?_)
        clear hK
        refine tkH 3 ?_
        refine tkH 4 ?_
        refine tkH 5 ?_
        refine tkH 6 ?_
        refine tkH 7 ?_
        refine tkH 8 ?_
        refine tkH 9 ?_
        refine tkH 10 ?_
        refine tkH 11 ?_
        refine tkH 12 ?_
        refine tkH 13 ?_
        refine tkH 14 ?_
        refine tkH 15 ?_
        refine tkH 16 ?_
        refine tkH 17 ?_
        refine tkH 18 ?_
        refine tkH 19 ?_
        refine tkH 20 ?_
        refine tkH 21 ?_
        refine tkH 22 ?_
        refine tkH 23 ?_
        refine tkH 24 ?_
        refine tkH 25 ?_
        refine tkH 26 ?_
        refine tkH 27 ?_
        refine tkH 28 ?_
        refine tkH 29 ?_
        refine tkH 30 ?_
        refine tkH 31 ?_
        refine tkH 32 ?_
        refine tkH 33 ?_
        refine tkH 34 ?_
        refine skH 35 ?_
        refine skH 36 ?_
        refine skH 37 ?_
        refine tkH 38 ?_
        refine tkH 39 ?_
        refine tkH 40 ?_
        refine wpAnyH_done (by kernel_rfl) ?_ _
        clear hS
        go_wp2
        go_roundw
        case rel => exact ⟨k + 1, by omega, by go_num, by rw [HS.out, HB.out], hbr.trans (hb2.mono hzr)⟩
        case measure => simp [intOf]; omega
    ·have dz : decide (0 ≤ D.getD t 0) = false := by simpa using hz
     have hbx : bestStep ne D a (t : Int) = a := by rw [bestStep, if_neg (fun h => hz (by simpa using h.1.2))]
     have HB := dh hbx
     generalize D.getD t 0 = z at *
     clear hnd hbx hzd hz hbs
     go_wp2_with fail
     refine wp_region_held_drew (S := fun w' => w'.cell? ⟨w.1.size, 0, none⟩ = some (.slice ai ni ci) ∧ w'.cell? ⟨w.1.size, 1, none⟩ = some (.slice ae ne ce) ∧ w'.cell? ⟨w.1.size, 2, none⟩ = some (.slice al nl cl) ∧ w'.cell? ⟨b8, o8 + t, none⟩ = some (.int .i64 z)) (by kernel_rfl) ⟨f0, f1, f2, hzc⟩ (fun hS => ?_)
     refine tkH 0 ?_
     refine tkH 1 ?_
     refine oneH 2 (fun K hK => ?_)
     go_simp
     refine (node_any ai _ al ni ci ne ce nl cl _ _).mono ?_
     rw [HND.out]
     rintro e w2 ⟨rfl, hb2'⟩
     have hb2 : Below wr.1.size wr w2 := below_undrew hb2'
     have hz2 := hb2.size
     clear hb2'
     have p0 := bC hb2 hzw f0
     have p1 := bC hb2 hzw f1
     have p2 := bC hb2 hzw f2
     have p3 := bC hb2 hb8w hzc
     go_wp2_with fail
     refine hK.out _ _ ⟨p0, p1, p2, p3⟩ (fun hS => ?_)
     clear hK
     refine tkH 3 ?_
     refine tkH 4 ?_
     refine tkH 5 ?_
     refine tkH 6 ?_
     refine tkH 7 ?_
     refine tkH 8 ?_
     refine tkH 9 ?_
     refine tkH 10 ?_
     refine skH 11 ?_
     refine skH 12 ?_
     refine skH 13 ?_
     refine skH 14 ?_
     refine skH 15 ?_
     refine skH 16 ?_
     refine skH 17 ?_
     refine skH 18 ?_
     refine skH 19 ?_
     refine skH 20 ?_
     refine skH 21 ?_
     refine skH 22 ?_
     refine skH 23 ?_
     refine skH 24 ?_
     refine skH 25 ?_
     refine skH 26 ?_
     refine skH 27 ?_
     refine skH 28 ?_
     refine skH 29 ?_
     refine skH 30 ?_
     refine skH 31 ?_
     refine skH 32 ?_
     refine skH 33 ?_
     refine skH 34 ?_
     refine skH 35 ?_
     refine skH 36 ?_
     refine skH 37 ?_
     refine skH 38 ?_
     refine skH 39 ?_
     refine tkH 40 ?_
     refine wpAnyH_done (by kernel_rfl) ?_ _
     clear hS
     go_wp2
     go_roundw
     case rel => exact ⟨k + 1, by omega, by go_num, by rw [HS.out, HB.out], hbr.trans (hb2.mono hzr)⟩
     case measure => simp [intOf]; omega
  ·have hbs := bestG_ok (n := ne) (D := D) from_
   rw [tL (by omega)] at *
   rcases hbs with hb | ⟨hna, hda, _⟩
   ·have hpg : pathG ne D G.edges from_ = ([], false) := by rw [pathG, if_pos (by omega)]
    have HPG := dh hpg
    rw [hb]
    clear hpg hb hs8 h1 hf1
    go_wp2
    go_ret2
    rw [HPG.out]
    exact ⟨_, rfl, World.ownsRow_nil _ _ _ _, hb0.trans ((HB1.out.trans (hbr.mono hz1)).mono (by omega))⟩
   ·have hpg : pathG ne D G.edges from_ = (pathW ne D G.edges (D.getD (bestG ne D from_).toNat 0).toNat (bestG ne D from_), true) := by rw [pathG, if_neg (by have := (isNd_iff.1 hna).1; omega)]
    generalize bestG ne D from_ = a0 at *
    generalize hK0 : (D.getD a0.toNat 0).toNat = K0 at *
    have hD0 : D.getD a0.toNat 0 = (K0 : Int) := by omega
    have HPG := dh hpg
    have HNA := dh hna
    have ha0 := (isNd_iff.1 hna).1
    have da0 : decide (a0 < 0) = false := by simpa using ha0
    have HD0 := dh hD0
    have HBR := dh hbr
    clear hpg hna hK0 hD0 hbr hf1 f0 f1 f2
    have ho0 : (wr.alloc (.cells #[.int .i64 a0] 3)).ownsRow w1.1.size 3 1 (.slice (some ⟨wr.1.size, 0, none⟩) 1 1) ([] ++ [a0]).length (icells ([] ++ [a0])) :=
     ⟨by simp [icells], .inr ⟨wr.1.size, 1, _, rfl, hzr, heap_alloc_new wr _, lR, by unfold maxLen; omega, by simp, by simp [icells]⟩⟩
    have hb00 : Below w1.1.size w1 (wr.alloc (.cells #[.int .i64 a0] 3)) := HBR.out.alloc hzr _
    have HO0 := dh ho0
    clear ho0
    go_wp2
    go_step3
    go_wp2
    go_loopg [9, 12] K0 (fun gk v u wr => ∃ (a : Int) (pre : List Int), v = .int .i64 a ∧ isNd ne a = true ∧ D.getD a.toNat 0 = (gk : Int) ∧ pathW ne D G.edges K0 a0 = pre ++ pathW ne D G.edges gk a ∧ wr.ownsRow w1.1.size 3 1 u (pre ++ [a]).length (icells (pre ++ [a])) ∧ Below w1.1.size w1 wr ∧ pre.length + gk = K0)
    case atStart => exact ⟨a0, [], rfl, HNA.out, HD0.out, rfl, HO0.out, hb00, by simp⟩
    case round =>
     clear HO0 hb00 hzr hzw
     obtain ⟨a', pre, rfl, hna, hDa, hpw, hown, hbr, hpl⟩ := hrel
     have hzr := hbr.size
     have hzw : w.1.size < wr.1.size := by omega
     obtain ⟨a, rfl, han⟩ := isNd_nat hna
     rw [tN] at hDa
     have hal : a < D.length := by rw [HDL.out]; exact han
     obtain ⟨b8, o8, rfl, hb8, hac⟩ := rd_int (hs8.rd.below hbr lR) hal
     have hb8w : b8 < wr.1.size := by omega
     have hzd : D[a] = (gk : Int) := by rw [← hDa]; simp [List.getD, hal]
     rw [hzd] at hac
     have i0 : (0 : Int) ≤ (a : Int) := by omega
     have i1 : (a : Int) < (ne : Int) := by omega
     have hK0 : K0 < 65536 := by
      have h1 := HDH.out a0.toNat (by have := isNd_iff.1 HNA.out; omega)
      rw [HD0.out] at h1; omega
     have HPW := dh hpw
     have HOW := dh hown
     have HDA := dh hDa
     clear hzd hDa hpw hown hna
     cases gk with
     | zero =>
      go_wp2
      all_goals (try rw [Exit.noGoto_ret])
      go_ret2
      rw [HPG.out, HPW.out]
      exact ⟨_, rfl, own_base HOW.out (by omega), hb0.trans ((HB1.out.trans (hbr.mono hz1)).mono (by omega))⟩
     | succ K =>
      have hge : G.edges.length = ne := H2.out.symm
      have haE : a < G.edges.length := by omega
      obtain ⟨be, oe, A', n', c', rfl, hbb, hc0, hrow⟩ := h1.he.at_ (ed_take haE)
      have hc0r := bC hbr (by omega) hc0
      have f1' := bC hbr (by omega) q1
      have hlen := hr G.edges[a] (mM haE)
      have hnx : n' = G.edges[a].length := by have := hrow.len; rw [ncells_len] at this; omega
      have hnxt := HDN.out.next (a := (a : Int)) (k := K) (isNd_iff.2 ⟨i0, i1⟩) (by rw [tN]; exact HDA.out)
      have hpw2 : pathW ne D G.edges (K + 1) (a : Int) = (a : Int) :: pathW ne D G.edges K (nxtG ne D (K : Int) (G.edges.getD a [])) := by rw [pathW, tN]
      rw [tN] at hnxt
      have hxr : G.edges.getD a [] = G.edges[a] := by simp [List.getD, haE]
      rw [hxr] at hnxt hpw2
      have HP2 := dh hpw2
      have HNX := dh hnxt
      clear hxr hnxt hpw2 hge hc0
      generalize G.edges[a] = x at *
      subst hnx
      rw [show ((K + 1 : Nat) : Int) = (K : Int) + 1 by omega] at hac
      have HBO := dh hbr
      obtain ⟨wp, rfl⟩ := xR wr
      have hkz : (((K : Int) + 1) == 0) = false := beq_eq_false_iff_ne.2 (by omega)
      have hkg : decide (0 < (K : Int) + 1) = true := decide_eq_true (by omega)
      go_wp2
      go_loopw [13, 85] (fun v i wr => ∃ m : Nat, m ≤ x.length ∧ i = .int .i64 m ∧ v = .int .i64 (nxtG ne D (K : Int) (x.take m)) ∧ Below wp.1.size wp wr) (fun _ i _ => x.length - (intOf i).toNat)
      case atStart => exact ⟨0, by omega, rfl, rfl, bR⟩
      case round =>
       obtain ⟨m, hm, rfl, rfl, hbi⟩ := hrel
       have hzi := hbi.size
       have hac' := bC hbi hb8w hac
       have hbrr : Below w1.1.size w1 wr := HBO.out.trans (hbi.mono hzr)
       have hzr' := hbrr.size
       have hc0' := bC hbi (by omega) hc0r
       clear hc0r hac f1'
       have hzw : w.1.size < wr.1.size := by omega
       have f0 := bC hbrr (by omega) q0
       have f1 := bC hbrr (by omega) q1
       have f2 := bC hbrr (by omega) q2
       by_cases hltm : m < x.length
       ·obtain ⟨bb, oo, rfl, hbbb, hd0, hd1⟩ := rd_nd (hrow.rd.below hbrr (by omega)) hltm
        have hsn := nxtG_take (n := ne) (D := D) (c := (K : Int)) hltm
        have hno := nxtG_ok (n := ne) (D := D) (c := (K : Int)) (x.take m)
        generalize x[m] = e at *
        generalize nxtG ne D (K : Int) (x.take m) = nx at *
        obtain ⟨op, act⟩ := e
        dsimp only at *
        have HS := dh hsn
        have hac := hac'
        clear hsn hac' q0 q1 q2
        obtain ⟨we, hwe, hbe, hze, he0⟩ : ∃ we, we = wr.alloc (.cells #[.int .i64 op, .int .i64 act] 65) ∧ Below wr.1.size wr we ∧ we.1.size = wr.1.size + 1 ∧ we.cell? ⟨wr.1.size, 0, none⟩ = some (.int .i64 op) := ⟨_, rfl, below_alW _, by simp, by rw [cell_of_row _ _ _ _ _ _ (heap_alloc_new wr _)]; rfl⟩
        have HWE := dh hwe
        have hzwe : w.1.size < we.1.size := by omega
        have hebw : wr.1.size < we.1.size := by omega
        have f0e := bC hbe hzw f0
        have f1e := bC hbe hzw f1
        have f2e := bC hbe hzw f2
        have hb8we : b8 < we.1.size := by omega
        have hace := bC hbe (by omega) hac
        clear hwe hze hac f0 f1 f2
        cases hnd : isNd ne op
        ·have HB := dh (show nxtStep ne D (K : Int) nx ⟨op, act⟩ = nx by rw [nxtStep, if_neg (by rw [hnd]; simp)])
         have HND := dh hnd
         clear hnd hno
         go_wp2_with fail
         rw [← HWE.out]
         refine wp_region_held_drew (S := fun w' => w'.cell? ⟨w.1.size, 0, none⟩ = some (.slice ai ni ci) ∧ w'.cell? ⟨w.1.size, 1, none⟩ = some (.slice (some ⟨be, oe, none⟩) ne ce) ∧ w'.cell? ⟨w.1.size, 2, none⟩ = some (.slice al nl cl) ∧ w'.cell? ⟨wr.1.size, 0, none⟩ = some (.int .i64 op)) (by kernel_rfl) ⟨f0e, f1e, f2e, he0⟩ (fun hS => ?_)
         refine tkH 0 ?_
         refine tkH 1 ?_
         refine tkH 2 ?_
         refine oneH 3 (fun K hK => ?_)
         go_simp
         refine (node_any ai _ al ni ci ne ce nl cl op _).mono ?_
         rw [HND.out]
         rintro e w2 ⟨rfl, hb2'⟩
         have hb2 : Below we.1.size we w2 := below_undrew hb2'
         have hz2 := hb2.size
         clear hb2'
         have p0 := bC hb2 hzwe f0e
         have p1 := bC hb2 hzwe f1e
         have p2 := bC hb2 hzwe f2e
         have p3 := bC hb2 hebw he0
         go_wp2_with fail
         refine hK.out _ _ ⟨p0, p1, p2, p3⟩ (fun hS => ?_)
         clear hK
         refine tkH 4 ?_
         refine skH 5 ?_
         refine skH 6 ?_
         refine skH 7 ?_
         refine skH 8 ?_
         refine skH 9 ?_
         refine skH 10 ?_
         refine skH 11 ?_
         refine skH 12 ?_
         refine skH 13 ?_
         refine skH 14 ?_
         refine skH 15 ?_
         refine tkH 16 ?_
         refine tkH 17 ?_
         refine skH 18 ?_
         refine skH 19 ?_
         refine skH 20 ?_
         refine skH 21 ?_
         refine skH 22 ?_
         refine skH 23 ?_
         refine skH 24 ?_
         refine skH 25 ?_
         refine tkH 26 ?_
         refine wpAnyH_done (by kernel_rfl) ?_ _
         clear hS
         go_wp2
         go_roundw
         case rel => exact ⟨m + 1, by omega, by go_num, by rw [HS.out, HB.out], hbi.trans ((hbe.trans (hb2.mono (by omega))).mono hzi)⟩
         case measure => simp [intOf]; omega
        ·obtain ⟨t, rfl, htn⟩ := isNd_nat hnd
         have htl : t < D.length := by rw [HDL.out]; exact htn
         obtain ⟨b8', o8', he8, _, hzc⟩ := rd_int (hs8.rd.below hbrr lR) htl
         cases he8
         have hzd : D[t] = D.getD t 0 := by simp [List.getD, htl]
         rw [hzd] at hzc
         have j0 : (0 : Int) ≤ (t : Int) := by omega
         have j1 : (t : Int) < (ne : Int) := by omega
         have hbq : nxtStep ne D (K : Int) nx ⟨(t : Int), act⟩ = if D.getD t 0 = (K : Int) ∧ (nx < 0 ∨ (t : Int) < nx) then (t : Int) else nx := by
          rw [nxtStep]
          simp only [tN]
          by_cases hc : D.getD t 0 = (K : Int) ∧ (nx < 0 ∨ (t : Int) < nx)
          ·rw [if_pos ⟨⟨hnd, hc.1⟩, hc.2⟩, if_pos hc]
          ·rw [if_neg (fun h => hc ⟨h.1.2, h.2⟩), if_neg hc]
         have HND := dh hnd
         have HBE := dh hbq
         have hw1 : IntKind.i64.wrap ((K : Int) + 1 - 1) = (K : Int) := by rw [show (K : Int) + 1 - 1 = K by omega]; exact IntWalk.i64_in _ (by omega)
         have hw2 : IntKind.i64.wrap (K : Int) = (K : Int) := IntWalk.i64_in _ (by omega)
         have hb8w : b8 < wr.1.size := by omega
         generalize D.getD t 0 = z at *
         have hzce := bC hbe hb8w hzc
         clear hzc
         clear hnd hbq hzd
         by_cases hz : z = (K : Int)
         ·have dz : (z == (K : Int)) = true := by simpa using hz
          rcases hno with rfl | ⟨hnn, _, _⟩
          ·have HB := dh (show nxtStep ne D (K : Int) (-1) ⟨(t : Int), act⟩ = (t : Int) by rw [HBE.out, if_pos ⟨hz, .inl (by omega)⟩])
           clear hz
           go_wp2_with fail
           rw [← HWE.out]
           refine wp_region_held_drew (S := fun w' => w'.cell? ⟨w.1.size, 0, none⟩ = some (.slice ai ni ci) ∧ w'.cell? ⟨w.1.size, 1, none⟩ = some (.slice (some ⟨be, oe, none⟩) ne ce) ∧ w'.cell? ⟨w.1.size, 2, none⟩ = some (.slice al nl cl) ∧ w'.cell? ⟨wr.1.size, 0, none⟩ = some (.int .i64 (t : Int)) ∧ w'.cell? ⟨b8, o8 + t, none⟩ = some (.int .i64 z) ∧ w'.cell? ⟨b8, o8 + a, none⟩ = some (.int .i64 ((K : Int) + 1))) (by kernel_rfl) ⟨f0e, f1e, f2e, he0, hzce, hace⟩ (fun hS => ?_)
           refine tkH 0 ?_
           refine tkH 1 ?_
           refine tkH 2 ?_
           refine oneH 3 (fun K hK => ?_)
           go_simp
           refine (node_any ai _ al ni ci ne ce nl cl _ _).mono ?_
           rw [HND.out]
           rintro e w2 ⟨rfl, hb2'⟩
           have hb2 : Below we.1.size we w2 := below_undrew hb2'
           have hz2 := hb2.size
           clear hb2'
           have p0 := bC hb2 hzwe f0e
           have p1 := bC hb2 hzwe f1e
           have p2 := bC hb2 hzwe f2e
           have p3 := bC hb2 hebw he0
           have p4 := bC hb2 hb8we hzce
           have p5 := bC hb2 hb8we hace
           go_wp2_with fail
           refine hK.out _ _ ⟨p0, p1, p2, p3, p4, p5⟩ (fun hS => ?_)
           clear hK
           refine tkH 4 ?_
           refine tkH 5 ?_
           refine tkH 6 ?_
           refine tkH 7 ?_
           refine tkH 8 ?_
           refine tkH 9 ?_
           refine tkH 10 ?_
           refine tkH 11 ?_
           refine tkH 12 ?_
           refine tkH 13 ?_
           refine tkH 14 ?_
           refine tkH 15 ?_
           refine tkH 16 ?_
           refine tkH 17 ?_
           refine tkH 18 ?_
           refine tkH 19 ?_
           refine tkH 20 ?_
           refine skH 21 ?_
           refine skH 22 ?_
           refine skH 23 ?_
           refine skH 24 ?_
           refine tkH 25 ?_
           refine tkH 26 ?_
           refine wpAnyH_done (by kernel_rfl) ?_ _
           clear hS
           go_wp2
           go_roundw
           case rel => exact ⟨m + 1, by omega, by go_num, by rw [HS.out, HB.out], hbi.trans ((hbe.trans (hb2.mono (by omega))).mono hzi)⟩
           case measure => simp [intOf]; omega
          ·have hn0 := (isNd_iff.1 hnn).1
           have dn : decide (nx < 0) = false := by simpa using hn0
           by_cases h6 : (t : Int) < nx
           ·have d6 : decide ((t : Int) < nx) = true := by simpa using h6
            have HB := dh (show nxtStep ne D (K : Int) nx ⟨(t : Int), act⟩ = (t : Int) by rw [HBE.out, if_pos ⟨hz, .inr h6⟩])
            clear hz hnn
            go_wp2_with fail
            rw [← HWE.out]
            refine wp_region_held_drew (S := fun w' => w'.cell? ⟨w.1.size, 0, none⟩ = some (.slice ai ni ci) ∧ w'.cell? ⟨w.1.size, 1, none⟩ = some (.slice (some ⟨be, oe, none⟩) ne ce) ∧ w'.cell? ⟨w.1.size, 2, none⟩ = some (.slice al nl cl) ∧ w'.cell? ⟨wr.1.size, 0, none⟩ = some (.int .i64 (t : Int)) ∧ w'.cell? ⟨b8, o8 + t, none⟩ = some (.int .i64 z) ∧ w'.cell? ⟨b8, o8 + a, none⟩ = some (.int .i64 ((K : Int) + 1))) (by kernel_rfl) ⟨f0e, f1e, f2e, he0, hzce, hace⟩ (fun hS => ?_)
            refine tkH 0 ?_
            refine tkH 1 ?_
            refine tkH 2 ?_
            refine oneH 3 (fun K hK => ?_)
            go_simp
            refine (node_any ai _ al ni ci ne ce nl cl _ _).mono ?_
            rw [HND.out]
            rintro e w2 ⟨rfl, hb2'⟩
            have hb2 : Below we.1.size we w2 := below_undrew hb2'
            have hz2 := hb2.size
            clear hb2'
            have p0 := bC hb2 hzwe f0e
            have p1 := bC hb2 hzwe f1e
            have p2 := bC hb2 hzwe f2e
            have p3 := bC hb2 hebw he0
            have p4 := bC hb2 hb8we hzce
            have p5 := bC hb2 hb8we hace
            go_wp2_with fail
            refine hK.out _ _ ⟨p0, p1, p2, p3, p4, p5⟩ (fun hS => ?_)
            clear hK
            refine tkH 4 ?_
            refine tkH 5 ?_
            refine tkH 6 ?_
            refine tkH 7 ?_
            refine tkH 8 ?_
            refine tkH 9 ?_
            refine tkH 10 ?_
            refine tkH 11 ?_
            refine tkH 12 ?_
            refine tkH 13 ?_
            refine tkH 14 ?_
            refine tkH 15 ?_
            refine tkH 16 ?_
            refine tkH 17 ?_
            refine tkH 18 ?_
            refine tkH 19 ?_
            refine tkH 20 ?_
            refine tkH 21 ?_
            refine tkH 22 ?_
            refine tkH 23 ?_
            refine tkH 24 ?_
            refine tkH 25 ?_
            refine tkH 26 ?_
            refine wpAnyH_done (by kernel_rfl) ?_ _
            clear hS
            go_wp2
            go_roundw
            case rel => exact ⟨m + 1, by omega, by go_num, by rw [HS.out, HB.out], hbi.trans ((hbe.trans (hb2.mono (by omega))).mono hzi)⟩
            case measure => simp [intOf]; omega
           ·have d6 : decide ((t : Int) < nx) = false := by simpa using h6
            have HB := dh (show nxtStep ne D (K : Int) nx ⟨(t : Int), act⟩ = nx by rw [HBE.out, if_neg (by rintro ⟨_, h | h⟩ <;> omega)])
            clear hz hnn
            go_wp2_with fail
            rw [← HWE.out]
            refine wp_region_held_drew (S := fun w' => w'.cell? ⟨w.1.size, 0, none⟩ = some (.slice ai ni ci) ∧ w'.cell? ⟨w.1.size, 1, none⟩ = some (.slice (some ⟨be, oe, none⟩) ne ce) ∧ w'.cell? ⟨w.1.size, 2, none⟩ = some (.slice al nl cl) ∧ w'.cell? ⟨wr.1.size, 0, none⟩ = some (.int .i64 (t : Int)) ∧ w'.cell? ⟨b8, o8 + t, none⟩ = some (.int .i64 z) ∧ w'.cell? ⟨b8, o8 + a, none⟩ = some (.int .i64 ((K : Int) + 1))) (by kernel_rfl) ⟨f0e, f1e, f2e, he0, hzce, hace⟩ (fun hS => ?_)
            refine tkH 0 ?_
            refine tkH 1 ?_
            refine tkH 2 ?_
            refine oneH 3 (fun K hK => ?_)
            go_simp
            refine (node_any ai _ al ni ci ne ce nl cl _ _).mono ?_
            rw [HND.out]
            rintro e w2 ⟨rfl, hb2'⟩
            have hb2 : Below we.1.size we w2 := below_undrew hb2'
            have hz2 := hb2.size
            clear hb2'
            have p0 := bC hb2 hzwe f0e
            have p1 := bC hb2 hzwe f1e
            have p2 := bC hb2 hzwe f2e
            have p3 := bC hb2 hebw he0
            have p4 := bC hb2 hb8we hzce
            have p5 := bC hb2 hb8we hace
            go_wp2_with fail
            refine hK.out _ _ ⟨p0, p1, p2, p3, p4, p5⟩ (fun hS => ?_)
            clear hK
            refine tkH 4 ?_
            refine tkH 5 ?_
            refine tkH 6 ?_
            refine tkH 7 ?_
            refine tkH 8 ?_
            refine tkH 9 ?_
            refine tkH 10 ?_
            refine tkH 11 ?_
            refine tkH 12 ?_
            refine tkH 13 ?_
            refine tkH 14 ?_
            refine tkH 15 ?_
            refine tkH 16 ?_
            refine tkH 17 ?_
            refine tkH 18 ?_
            refine tkH 19 ?_
            refine tkH 20 ?_
            refine tkH 21 ?_
            refine tkH 22 ?_
            refine tkH 23 ?_
            refine tkH 24 ?_
            refine tkH 25 ?_
            refine tkH 26 ?_
            refine wpAnyH_done (by kernel_rfl) ?_ _
            clear hS
            go_wp2
            go_roundw
            case rel => exact ⟨m + 1, by omega, by go_num, by rw [HS.out, HB.out], hbi.trans ((hbe.trans (hb2.mono (by omega))).mono hzi)⟩
            case measure => simp [intOf]; omega
         ·have dz : (z == (K : Int)) = false := by simpa using hz
          have HB := dh (show nxtStep ne D (K : Int) nx ⟨(t : Int), act⟩ = nx by rw [HBE.out, if_neg (fun h => hz h.1)])
          clear hz hno
          go_wp2_with fail
          rw [← HWE.out]
          refine wp_region_held_drew (S := fun w' => w'.cell? ⟨w.1.size, 0, none⟩ = some (.slice ai ni ci) ∧ w'.cell? ⟨w.1.size, 1, none⟩ = some (.slice (some ⟨be, oe, none⟩) ne ce) ∧ w'.cell? ⟨w.1.size, 2, none⟩ = some (.slice al nl cl) ∧ w'.cell? ⟨wr.1.size, 0, none⟩ = some (.int .i64 (t : Int)) ∧ w'.cell? ⟨b8, o8 + t, none⟩ = some (.int .i64 z) ∧ w'.cell? ⟨b8, o8 + a, none⟩ = some (.int .i64 ((K : Int) + 1))) (by kernel_rfl) ⟨f0e, f1e, f2e, he0, hzce, hace⟩ (fun hS => ?_)
          refine tkH 0 ?_
          refine tkH 1 ?_
          refine tkH 2 ?_
          refine oneH 3 (fun K hK => ?_)
          go_simp
          refine (node_any ai _ al ni ci ne ce nl cl _ _).mono ?_
          rw [HND.out]
          rintro e w2 ⟨rfl, hb2'⟩
          have hb2 : Below we.1.size we w2 := below_undrew hb2'
          have hz2 := hb2.size
          clear hb2'
          have p0 := bC hb2 hzwe f0e
          have p1 := bC hb2 hzwe f1e
          have p2 := bC hb2 hzwe f2e
          have p3 := bC hb2 hebw he0
          have p4 := bC hb2 hb8we hzce
          have p5 := bC hb2 hb8we hace
          go_wp2_with fail
          refine hK.out _ _ ⟨p0, p1, p2, p3, p4, p5⟩ (fun hS => ?_)
          clear hK
          refine tkH 4 ?_
          refine tkH 5 ?_
          refine tkH 6 ?_
          refine tkH 7 ?_
          refine tkH 8 ?_
          refine tkH 9 ?_
          refine tkH 10 ?_
          refine tkH 11 ?_
          refine tkH 12 ?_
          refine tkH 13 ?_
          refine tkH 14 ?_
          refine tkH 15 ?_
          refine tkH 16 ?_
          refine tkH 17 ?_
          refine skH 18 ?_
          refine skH 19 ?_
          refine skH 20 ?_
          refine skH 21 ?_
          refine skH 22 ?_
          refine skH 23 ?_
          refine skH 24 ?_
          refine skH 25 ?_
          refine tkH 26 ?_
          refine wpAnyH_done (by kernel_rfl) ?_ _
          clear hS
          go_wp2
          go_roundw
          case rel => exact ⟨m + 1, by omega, by go_num, by rw [HS.out, HB.out], hbi.trans ((hbe.trans (hb2.mono (by omega))).mono hzi)⟩
          case measure => simp [intOf]; omega
       ·have hml : m = x.length := by omega
        rw [tL (show x.length ≤ m by omega)]
        have hno := HNX.out
        have hownr := own_below HOW.out hbi
        have HP2' := dh HP2.out
        generalize nxtG ne D (K : Int) x = nx at *
        obtain ⟨h2, h3, h4⟩ := hno
        have HN2 := dh h2
        have HN3 := dh h3
        have hpl2 : (pre ++ [(a : Int)]).length ≤ 70000 := by simp; omega
        have HBI := dh hbrr
        clear h2 h3 h4 HNX hml hbi f0 f2 hac'
        go_wp2_with (at_builtin; refine wpList_push rfl (.tmp 120) (.tmp 122) 22 rfl w1.1.size 3 1 8 sliceInt _ _ _ (hownr.alloc _) rfl wr.1.size #[.int .i64 nx] rfl (heap_alloc_new wr _) rfl (by simp [Value.oneCell']) (by omega) (by omega) (by simp; omega) ?_; intro v3 w3 hown3 ht3 hat3 hne3; have HO3 := dh hown3; have HB3 := dh (below_tchE (HBI.out.alloc hzr' _) (hownr.alloc _) ht3 lR); clear hown3 ht3 hat3)
        go_roundg K
        case rel =>
         refine ⟨nx, pre ++ [(a : Int)], rfl, HN2.out, HN3.out, ?_, ?_, HB3.out, by simp; omega⟩
         ·rw [HPW.out, HP2'.out]; simp
         ·have := HO3.out
          rw [lA, icells_append]; exact this
        case measure => omega
end
end Go.Proofs.YtiebpncpdbnelaaDoor
