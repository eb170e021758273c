/- Texts that stand one behind the other, in one file. -/
import Derived.Test.YtiebpncpdbnelaaGreatDoorSc1
set_option maxHeartbeats 8000000
set_option maxRecDepth 100000
namespace Go.Proofs.YtiebpncpdbnelaaGreatDoor
open Go.RowKit
theorem lower_any (X : Nat) (xo : Obj) (base b bx : Nat) (EA : Value) (N qn ql qx qi qp : Nat) (vs vw : Value) (s : Sc) (w : World) (x y : Nat) (h : ScM X xo base b EA N qn ql qx qi qp vs vw s w) (hbx : w.cell? ⟨bx, 0, none⟩ = some (.pointer (some ⟨b, 0, none⟩))) (hx : x < N) :
  Calls Tryz.prog 99 #[.int .i64 (x : Int), .int .i64 (y : Int), .pointer (some ⟨bx, 0, none⟩)] w (fun e w' => (∃ v, e = .returned v) ∧ ScM X xo base b EA N qn ql qx qi qp vs vw (s.lower x y) w' ∧ Below base w w') := by
 have hx0 : (0 : Int) ≤ (x : Int) := by omega
 have hx1 : (x : Int) < (N : Int) := by omega
 have c2 := h.cells.2.2.1
 obtain ⟨l1, l2, l3⟩ := own_getn h.low hx
 have hlq : base ≤ ql := (h.low.lt ql rfl).1
 obtain ⟨lw, hlw⟩ := xQ (s.low.getD x 0)
 rw [hlw] at l1
 have HLW := dh hlw
 have HH := dh h
 clear h hlw
 go_enter Tryz.func99, Tryz.ntmps99
 go_wp2_with fail
 refine wp_region_U (S := fun w' => w'.cell? ⟨bx, 0, none⟩ = some (.pointer (some ⟨b, 0, none⟩)) ∧ w'.cell? ⟨b, 2, none⟩ = some (.slice (some ⟨ql, 0, none⟩) N N) ∧ w'.cell? ⟨ql, x, none⟩ = some (.int .i64 (lw : Int))) 15 (by kernel_rfl) (⟨hbx, c2, l1⟩) (fun hS => ?_)
 refine tkU 0 [] ?_
 refine tkU 1 [] ?_
 refine tkU 2 [] ?_
 refine tkU 3 [] ?_
 refine tkU 4 [] ?_
 refine tkU 5 [] ?_
 refine tkU 6 [] ?_
 refine tkU 7 [] ?_
 refine tkU 8 [] ?_
 refine tkU 9 [] ?_
 refine tkU 10 [] ?_
 refine tkU 11 [] ?_
 refine tkU 12 [] ?_
 refine tkU 13 [] ?_
 refine tkU 14 [] ?_
 refine wpAnyU_lastD (i := 15) rfl (by kernel_rfl) (by kernel_rfl) (fun K hK => ?_)
 go_simp
 refine hK.out _ _ ?_
 clear hK
 refine wpAnyU_done (by kernel_rfl) ?_
 have hm : (if y < lw then (y : Int) else (lw : Int)) = ((min (s.low.getD x 0) y : Nat) : Int) := by rw [HLW.out]; split <;> omega
 have hA := (HH.out.set_low x (min (s.low.getD x 0) y) hm).drew
 have hb := bel_drew ((Below.refl base w).setCell (p := ⟨ql, x, none⟩) hlq (.int .i64 (if y < lw then (y : Int) else (lw : Int))))
 have HA := dh hA
 have HB := dh hb
 clear hA hb hm HH HLW
 generalize (if y < lw then (y : Int) else (lw : Int)) = vv at *
 go_wp2_with fail
 go_end0
 exact ⟨⟨_, rfl⟩, HA.out, HB.out⟩
theorem icells_at {l : List Int} {i : Nat} (h : i < l.length) : (icells l)[i]? = some (.int .i64 l[i]) := by simp [icells, h]
theorem nat_at {l : List Nat} {i : Nat} (h : i < l.length) : (icells (natI l))[i]? = some (.int .i64 ((l.getD i 0 : Nat) : Int)) := by
 rw [icells_at (by rw [natI_len]; exact h), ← natI_getD, gD, gE (by rw [natI_len]; exact h)]; rfl
theorem min_any (A : Option Addr) (n c : Nat) (l : List Nat) (w : World) (B : Nat) (hl : Sl w B 1 A n c (icells (natI l))) (hn : n = l.length) (h0 : 0 < n) :
  Calls Tryz.prog 102 #[.slice A n c] w (fun e w' => ∃ m, m ∈ l ∧ (∀ y ∈ l, m ≤ y) ∧ Num w (m : Int) e w') := by
 have hcap := hl.cap
 have hmx := hl.max
 unfold maxLen at hmx
 have hcell : ∀ i (hi : i < n), ∃ b o, A = some ⟨b, o, none⟩ ∧ w.cell? ⟨b, o + i, none⟩ = some (.int .i64 ((l.getD i 0 : Nat) : Int)) := fun i hi => by
  obtain ⟨b, o, h1, _, h2⟩ := hl.rd.at_ (j := i) (u := .int .i64 ((l.getD i 0 : Nat) : Int)) (by rw [icells_at (by rw [natI_len]; omega)]; simp [natI, List.getD, show i < l.length by omega])
  exact ⟨b, o, h1, h2⟩
 obtain ⟨b, o, rfl, hc0⟩ := hcell 0 h0
 have hcell' : ∀ i, i < n → w.cell? ⟨b, o + i, none⟩ = some (.int .i64 ((l.getD i 0 : Nat) : Int)) := fun i hi => by
  obtain ⟨b', o', h1, h2⟩ := hcell i hi
  cases h1; exact h2
 rw [Nat.add_zero] at hc0
 have HC := dh hcell'
 have hn1 : ((n : Int) < 1) = False := by simp; omega
 obtain ⟨m0, hm0⟩ := xQ (l.getD 0 0)
 rw [hm0] at hc0
 have hin0 : m0 ∈ l ∧ ∀ j, j < 1 → m0 ≤ l.getD j 0 := by
  refine ⟨?_, fun j hj => by have : j = 0 := by omega
                             subst this; omega⟩
  rw [← hm0, gD, gE (by omega : 0 < l.length)]
  exact mM (by omega)
 have HI := dh hin0
 have HN := dh hn
 have h0' : decide ((n : Int) < 1) = false := by simp; omega
 clear hcell hcell' hl hm0 hn hn1 hin0
 go_enter Tryz.func102, Tryz.ntmps102
 go_wp2_with fail
 go_loopw [4, 3] (fun p q wr => ∃ (k m : Nat), k ≤ n ∧ 1 ≤ k ∧ p = .int .i64 k ∧ q = .int .i64 m ∧ (m ∈ l ∧ ∀ j, j < k → m ≤ l.getD j 0) ∧ wr = w) (fun p _ _ => n - (intOf p).toNat)
 case atStart => exact ⟨1, m0, by omega, by omega, rfl, rfl, HI.out, rfl⟩
 case round =>
  obtain ⟨k, m, hk, hk1, rfl, rfl, hm, rfl⟩ := hrel
  have HM := dh hm
  clear hm hc0
  by_cases hlt : k < n
  ·have hck := HC.out k hlt
   have hk0 : (0 : Int) ≤ (k : Int) := by omega
   have wk : IntKind.i64.wrap ((k : Int) + 1) = (k : Int) + 1 := by rw [wI]; omega
   obtain ⟨x, hx⟩ := xQ (l.getD k 0)
   rw [hx] at hck
   have HX := dh hx
   clear hx
   go_wp2_with fail
   have hxl : x ∈ l := by
    rw [← HX.out, gD, gE (by rw [← HN.out]; exact hlt : k < l.length)]
    exact mM _
   refine ⟨⟨k + 1, if x < m then x else m, by omega, by omega, congrArg (Value.int .i64) (by omega), congrArg (Value.int .i64) (by split <;> rfl), ⟨by split <;> first | exact hxl | exact HM.out.1, fun j hj => ?_⟩, trivial⟩, by simp [intOf]; omega⟩
   by_cases e : j = k
   ·subst e; rw [HX.out]; split <;> omega
   ·have := HM.out.2 j (by omega)
    split <;> omega
  ·have hkn : k = n := by omega
   subst hkn
   go_wp2_with fail
   go_ret
   refine ⟨m, HM.out.1, fun y hy => ?_, rfl, bR⟩
   obtain ⟨j, hj⟩ := List.getElem?_of_mem hy
   have hjl := (gB.1 hj).1
   have := HM.out.2 j (by rw [HN.out]; exact hjl)
   rwa [gD, hj] at this
end Go.Proofs.YtiebpncpdbnelaaGreatDoor
namespace Go.Proofs.YtiebpncpdbnelaaGreatDoor
open Go.RowKit
theorem check1a_any (x : Int) (b n : Nat) (w : World) (h0 : w.cell? ⟨b, 0, none⟩ = some (.int .i64 (n : Int))) :
  Calls Tryz.prog 24 #[.int .i64 x, .pointer (some ⟨b, 0, none⟩)] w (Tru w (!isNd n x)) := by
 by_cases hn : isNd n x = true
 ·have hx := isNd_iff.1 hn
  obtain ⟨hx1, hx2⟩ := hx
  have d1 : decide (x < 0) = false := by simp; omega
  have d2 : decide ((n : Int) ≤ x) = false := by simp; omega
  have HN := dh hn
  clear hn
  go_enter Tryz.func24, Tryz.ntmps24
  go_wp2_with fail
  go_ret
  exact ⟨ret_bool (by rw [HN.out]; rfl), bR⟩
 ·have hx := isNd_no hn
  have HN : Hid (isNd n x = false) := dh (by simpa using hn)
  clear hn
  rcases hx with hx | ⟨hx, hx2⟩
  ·have d1 : decide (x < 0) = true := by simp; omega
   go_enter Tryz.func24, Tryz.ntmps24
   go_wp2_with fail
   go_ret
   exact ⟨ret_bool (by rw [HN.out]; rfl), bR⟩
  ·have d1 : decide (x < 0) = false := by simp; omega
   have d2 : decide ((n : Int) ≤ x) = true := by simp; omega
   go_enter Tryz.func24, Tryz.ntmps24
   go_wp2_with fail
   go_ret
   exact ⟨ret_bool (by rw [HN.out]; rfl), bR⟩
theorem any_notNd {N : Nat} (l : List Int) : l.any (fun x => !isNd N x) = !(l.all (isNd N)) := by
 induction l with
 | nil => rfl
 | cons x l ih => simp [ih]
theorem index_auchk (b : Nat) (p : Int → Bool) (l : List Int) (A : Option Addr) (n c : Nat) (w : World) (B : Nat) (hs : Sl w B 1 A n c (icells l)) (hB : B ≤ w.1.size) (hn : n = l.length) (hl : n ≤ 100000000000)
  (HC : Hid (∀ (x : Int) (w' : World), x ∈ l → Below w.1.size w w' → Calls Tryz.prog 24 #[.int .i64 x, .pointer (some ⟨b, 0, none⟩)] w' (Tru w' (p x)))) :
  Calls Tryz.prog 46 #[.slice A n c, .func (.func 24) #[] #[.pointer (some ⟨b, 0, none⟩)]] w (Fnd w (l.any p)) := by
 subst hn
 go_enter Tryz.func46, Tryz.ntmps46
 go_wp2
 go_loopw [8] (fun i wr => ∃ k : Nat, k ≤ l.length ∧ i = .int .i64 k ∧ Below w.1.size w wr ∧ Hid ((l.take k).any p = false)) (fun i _ => l.length - (intOf i).toNat)
 case atStart => exact ⟨0, by omega, rfl, bR, rfl⟩
 case round =>
  obtain ⟨k, hk, rfl, hbr, HA⟩ := hrel
  have hsw := hbr.size
  by_cases hlt : k < l.length
  ·obtain ⟨bb, o, rfl, _, hc0⟩ := (hs.rd.below hbr hB).at_ (j := k) (icells_at hlt)
   have hC := HC.out l[k] wr (mM hlt) hbr
   have hmem := mM hlt
   have hsn : (l.take (k + 1)).any p = (p l[k]) := by rw [take_snoc l k hlt, List.any_append, HA.out]; simp
   obtain ⟨x, hx⟩ := xQ (l[k])
   rw [hx] at hc0
   rw [hx] at hC hsn hmem
   have HCC := dh hC
   have HS := dh hsn
   have HM := dh hmem
   clear hx hC hsn hmem
   cases hb : p x
   ·have HB := dh hb
    clear hb
    go_wp2_with fail
    refine Calls.mono HCC.out ?_
    rw [HB.out]
    rintro e w2 ⟨rfl, hb2⟩
    go_wp2
    go_roundw
    case rel => exact ⟨k + 1, by omega, by go_num, hbr.trans (hb2.mono hsw), by show _ = _; rw [HS.out]; exact HB.out⟩
    case measure => simp [intOf]; omega
   ·have HB := dh hb
    clear hb
    go_wp2_with fail
    refine Calls.mono HCC.out ?_
    rw [HB.out]
    rintro e w2 ⟨rfl, hb2⟩
    go_wp2
    go_ret
    exact ⟨_, rfl, by omega, by omega, hbr.trans (hb2.mono hsw), by rw [List.any_eq_true.2 ⟨x, HM.out, HB.out⟩]; simp⟩
  ·have hkl : k = l.length := by omega
   subst hkl
   rw [tL lR] at HA
   go_wp2
   go_ret
   exact ⟨_, rfl, by omega, by omega, hbr, by rw [HA.out]; rfl⟩
theorem contains_auchk (b : Nat) (p : Int → Bool) (l : List Int) (A : Option Addr) (n c : Nat) (w : World) (B : Nat) (hs : Sl w B 1 A n c (icells l)) (hB : B ≤ w.1.size) (hn : n = l.length) (hl : n ≤ 100000000000)
  (HC : Hid (∀ (x : Int) (w' : World), x ∈ l → Below w.1.size w w' → Calls Tryz.prog 24 #[.int .i64 x, .pointer (some ⟨b, 0, none⟩)] w' (Tru w' (p x)))) :
  Calls Tryz.prog 25 #[.slice A n c, .func (.func 24) #[] #[.pointer (some ⟨b, 0, none⟩)]] w (Tru w (l.any p)) := by
 go_enter Tryz.func25, Tryz.ntmps25
 have hI := dh (index_auchk b p l A n c w B hs hB hn hl HC)
 clear hn hs hl
 go_wp2_with fail
 refine Calls.mono hI.out ?_
 rintro e w1 ⟨k, rfl, _, _, hb, hk⟩
 go_wp2
 go_ret
 exact ⟨rfl, hb⟩
theorem autoCheck_any (a : Aut) (Ai : Option Addr) (ni ci : Nat) (An : Option Addr) (nn cn : Nat) (w : World) (B : Nat) (h : AutRd w B a Ai ni ci An nn cn) (hB : B ≤ w.1.size) (hil : a.init.length ≤ 100000000) (htl : ∀ x ∈ a.nodes, x.to.length ≤ 100000000) :
  Calls Tryz.prog 12 #[.agg #[.int .i64 a.sets, .slice Ai ni ci, .slice An nn cn]] w (Num w (chkA a)) := by
 obtain ⟨hb0, x0, y0, z0⟩ := two_new w (.cells #[.int .i64 a.sets, .slice Ai ni ci, .slice An nn cn] 25) (.cells #[.int .i64 (nn : Int)] 3)
 obtain ⟨W0, hW0⟩ := xQ ((w.alloc (.cells #[.int .i64 a.sets, .slice Ai ni ci, .slice An nn cn] 25)).alloc (.cells #[.int .i64 (nn : Int)] 3))
 rw [hW0] at hb0 x0 y0 z0
 have hrd := h.below hb0 hB
 have hni := h.eni
 have hnn := h.enn
 have hci := h.init.cap
 have hmi := h.init.max
 obtain ⟨xsN, hsN, -⟩ := h.nodes
 have hcn := hsN.cap
 have hmn := hsN.max
 obtain ⟨s, hs⟩ := xQ a.sets
 have HS := dh hs
 have hBs : B ≤ W0.1.size := by omega
 rw [hs] at hW0 x0
 have HW0 := dh hW0
 have HX0 := dh x0
 have HY0 := dh y0
 have HZ0 := dh z0
 clear hsN
 unfold maxLen at hmi hmn
 have HR := dh hrd
 have HNI := dh hni
 have HNN := dh hnn
 have HB0 := dh hb0
 have HIL := dh hil
 have HTL := dh htl
 have hnil : ni ≤ 100000000 := by omega
 have HCT : Hid (∀ (w' : World) (l : List Int) (A : Option Addr) (n c : Nat), Below W0.1.size W0 w' → Sl w' w'.1.size 1 A n c (icells l) → n = l.length → n ≤ 100000000000 →
   Calls Tryz.prog 25 #[.slice A n c, .func (.func 24) #[] #[.pointer (some ⟨w.1.size + 1, 0, none⟩)]] w' (Tru w' (!(l.all (isNd nn))))) :=
  dh (fun w' l A n c hb hsl hn hl => by
   have hc : w'.cell? ⟨w.1.size + 1, 0, none⟩ = some (.int .i64 (nn : Int)) := (hb.cell (p := ⟨w.1.size + 1, 0, none⟩) (by show w.1.size + 1 < W0.1.size; have := HZ0.out; omega)).trans (cR HY0.out)
   have hlt : w.1.size + 1 < w'.1.size := by have := hb.size; have := HZ0.out; omega
   have := contains_auchk (w.1.size + 1) (fun x => !isNd nn x) l A n c w' w'.1.size hsl lR hn hl (dh (fun x w2 _ hb2 => check1a_any x (w.1.size + 1) nn w2 (bC hb2 hlt hc)))
   rwa [any_notNd] at this)
 clear hrd hW0 h hni hnn x0 y0 z0 hb0 hil htl
 obtain ⟨k0, k1, k2⟩ := box3A HX0.out
 have kn : W0.cell? ⟨w.1.size + 1, 0, none⟩ = some (.int .i64 (nn : Int)) := cR HY0.out
 rw [hs]
 by_cases h256 : 256 < nn
 ·have g256 : (256 : Int) < (nn : Int) := by omega
  have HE : Hid (chkA a = 11) := dh (by unfold chkA; rw [if_pos (.inl (by rw [← HNN.out]; exact h256))])
  clear hs
  go_enter Tryz.func12, Tryz.ntmps12
  go_upto_region 3 with fail
  rw [HW0.out]
  go_wp2_with fail
  go_ret
  exact ⟨by rw [HE.out]; rfl, HB0.out⟩
 ·have g256 : ¬ (256 : Int) < (nn : Int) := by omega
  by_cases h16 : 16 < s
  ·have HE : Hid (chkA a = 11) := dh (by unfold chkA; rw [if_pos (.inr (by rw [hs]; exact h16))])
   clear hs
   go_enter Tryz.func12, Tryz.ntmps12
   go_upto_region 3 with fail
   rw [HW0.out]
   go_wp2_with fail
   go_ret
   exact ⟨by rw [HE.out]; rfl, HB0.out⟩
  ·have he1 : ¬ (256 < a.nodes.length ∨ 16 < a.sets) := by rw [← HNN.out, hs]; omega
   by_cases hs0 : s < 0
   ·have HE : Hid (chkA a = 10) := dh (by unfold chkA; rw [if_neg he1, if_pos (by rw [hs]; exact hs0)])
    clear hs he1
    go_enter Tryz.func12, Tryz.ntmps12
    go_upto_region 3 with fail
    rw [HW0.out]
    go_wp2_with fail
    go_ret
    exact ⟨by rw [HE.out]; rfl, HB0.out⟩
   ·have he2 : ¬ a.sets < 0 := by rw [hs]; exact hs0
    have hC0 : chkA a = if a.init.all (isNd a.nodes.length) = true then chkNds a.nodes.length a.sets a.nodes else 10 := by
     unfold chkA
     rw [if_neg he1, if_neg he2]
    have HC := dh hC0
    have HC1 := dh (HCT.out W0 a.init Ai ni ci bR (HR.out.init.up hBs) HNI.out (by omega))
    clear hC0
    clear hs he1 he2
    go_enter Tryz.func12, Tryz.ntmps12
    go_upto_region 3 with fail
    rw [HW0.out]
    go_wp2_with fail
    refine HC1.out.mono ?_
    cases hall : a.init.all (isNd nn)
    ·rintro e w1 ⟨rfl, hb1⟩
     have HE : Hid (chkA a = 10) := dh (by rw [HC.out, if_neg (by rw [← HNN.out, hall]; decide)])
     have HB1 := dh (HB0.out.trans (hb1.mono (by have := HZ0.out; omega)))
     clear hall hb1
     go_wp2_with fail
     go_ret
     exact ⟨by rw [HE.out]; rfl, HB1.out⟩
    ·rintro e w1 ⟨rfl, hb1⟩
     have hc2 : chkA a = chkNds a.nodes.length a.sets a.nodes := by rw [HC.out, if_pos (by rw [← HNN.out]; exact hall)]
     have HC2 := dh hc2
     have HB1 := dh hb1
     have k0' : w1.cell? ⟨w.1.size, 0, none⟩ = some (.int .i64 s) := bC hb1 (by show w.1.size < W0.1.size; have := HZ0.out; omega) k0
     have k2' : w1.cell? ⟨w.1.size, 2, none⟩ = some (.slice An nn cn) := bC hb1 (by show w.1.size < W0.1.size; have := HZ0.out; omega) k2
     clear hall hc2 hb1 k0 k1 k2 kn HC HC1
     go_wp2_with fail
     go_loopw [32] (fun v wr => ∃ i : Nat, i ≤ nn ∧ v = .int .i64 i ∧ Below W0.1.size W0 wr ∧ Hid (∀ x ∈ a.nodes.take i, chkNd a.nodes.length a.sets x = 0)) (fun v _ => nn - (intOf v).toNat)
     case atStart => exact ⟨0, by omega, rfl, HB1.out, dh (fun x hx => by simp at hx)⟩
     case round =>
      clear HB1 k0' k2'
      obtain ⟨i, hi, rfl, hbr, HQ⟩ := hrel
      have hzr := hbr.size
      have k0' : wr.cell? ⟨w.1.size, 0, none⟩ = some (.int .i64 s) := (hbr.cell (p := ⟨w.1.size, 0, none⟩) (by show w.1.size < W0.1.size; have := HZ0.out; omega)).trans (cR HX0.out)
      by_cases hlt : i < nn
      ·have hlt' : (i : Int) < (nn : Int) := by omega
       have hi0 : (0 : Int) ≤ (i : Int) := by omega
       obtain ⟨b, o, x, At, ct, rfl, hbl, hx, c0, c1, c2, c3, hst⟩ := rd_aut (HR.out.below hbr hBs) hlt
       have hila : i < a.nodes.length := by rw [← HNN.out]; exact hlt
       have hxe : a.nodes[i] = x := by
        rw [gE hila] at hx; exact Option.some.inj hx
       have hxl := HTL.out x (by rw [← hxe]; exact mM hila)
       have hq2 : chkNd a.nodes.length a.sets x = 0 → ∀ y ∈ a.nodes.take (i + 1), chkNd a.nodes.length a.sets y = 0 := fun h => all_takeS (P := fun x => chkNd a.nodes.length a.sets x = 0) hila HQ.out (by rw [hxe]; exact h)
       have hbad : chkNd a.nodes.length a.sets x ≠ 0 → chkA a = chkNd a.nodes.length a.sets x := fun h => by
        rw [HC2.out, chkNds_at hila HQ.out (by rw [hxe]; exact h), hxe]
       have hmt := hst.max
       have hct := hst.cap
       unfold maxLen at hmt
       have wi : IntKind.i64.wrap ((i : Int) + 1) = i + 1 := by rw [wI]; omega
       have HQ2 := dh hq2
       have HBAD := dh hbad
       have hbx : Below wr.1.size wr (wr.alloc (.cells #[.int .u64 (x.need : Int), .int .u64 (x.ban : Int), .int .u64 (x.inn : Int), .slice At x.to.length ct] 36)) := bR.alloc lR _
       have hxx := heap_alloc_new wr (.cells #[.int .u64 (x.need : Int), .int .u64 (x.ban : Int), .int .u64 (x.inn : Int), .slice At x.to.length ct] 36)
       have hzx : (wr.alloc (.cells #[.int .u64 (x.need : Int), .int .u64 (x.ban : Int), .int .u64 (x.inn : Int), .slice At x.to.length ct] 36)).1.size = wr.1.size + 1 := by simp
       obtain ⟨wx, hwx⟩ := xQ (wr.alloc (.cells #[.int .u64 (x.need : Int), .int .u64 (x.ban : Int), .int .u64 (x.inn : Int), .slice At x.to.length ct] 36))
       rw [hwx] at hbx hxx hzx
       have HWX := dh hwx
       have HXX := dh hxx
       have HCX := dh (HCT.out wx x.to At x.to.length ct (hbr.trans (hbx.mono hzr)) ((hst.below hbx (by omega)).up (by omega)) rfl (by omega))
       have HBX := dh (hbr.trans (hbx.mono hzr))
       have HZX := dh hzx
       clear hq2 hbad hst hx hxe hbx hxx hzx hwx hbr
       go_upto_region 10 with fail
       rw [HWX.out]
       have e3 : wx.cell? ⟨wr.1.size, 3, none⟩ = some (.slice At x.to.length ct) := cR HXX.out
       clear c0 c1 c2 c3
       go_wp2_with fail
       refine HCX.out.mono ?_
       cases hall : x.to.all (isNd nn)
       ·rintro e w2 ⟨rfl, hb2⟩
        have hcn : chkNd a.nodes.length a.sets x = 10 := by unfold chkNd; rw [if_neg (by rw [← HNN.out, hall]; decide)]
        have HE : Hid (chkA a = 10) := dh (by rw [HBAD.out (by rw [hcn]; decide), hcn])
        have HB2 := dh (HB0.out.trans ((HBX.out.trans (hb2.mono (by have := HBX.out.size; omega))).mono (by have := HZ0.out; omega)))
        clear hall hcn hb2 e3
        go_wp2_with fail
        go_ret
        exact ⟨by rw [HE.out]; rfl, HB2.out⟩
       ·rintro e w2 ⟨rfl, hb2⟩
        have hcn : chkNd a.nodes.length a.sets x = if x.inn >>> s.toNat = 0 then 0 else 3 := by
         unfold chkNd
         rw [if_pos (by rw [← HNN.out]; exact hall), HS.out]
        obtain ⟨t, ht⟩ : ∃ t : Nat, s = (t : Int) := ⟨s.toNat, by omega⟩
        have htt : t ≤ 16 := by omega
        have e2 : w2.cell? ⟨wr.1.size, 2, none⟩ = some (.int .u64 (x.inn : Int)) := (hb2.cell (p := ⟨wr.1.size, 2, none⟩) (by show wr.1.size < wx.1.size; have := HZX.out; omega)).trans (cR HXX.out)
        have hbw2 : Below W0.1.size W0 w2 := HBX.out.trans (hb2.mono (by have := HBX.out.size; omega))
        have k0'' : w2.cell? ⟨w.1.size, 0, none⟩ = some (.int .i64 s) := (hbw2.cell (p := ⟨w.1.size, 0, none⟩) (by show w.1.size < W0.1.size; have := HZ0.out; omega)).trans (cR HX0.out)
        have HB2 := dh hbw2
        subst ht
        rw [tN] at hcn
        have hsh := shr_ne x.inn t
        cases hz : (x.inn >>> t == 0)
        ·have hcn3 : chkNd a.nodes.length a.sets x = 3 := by rw [hcn, if_neg (by simpa using hz)]
         have HE : Hid (chkA a = 3) := dh (by rw [HBAD.out (by rw [hcn3]; decide), hcn3])
         have HBF := dh (HB0.out.trans (hbw2.mono (by have := HZ0.out; omega)))
         rw [hz] at hsh
         clear hall hcn hcn3 hb2 hbw2 e3 k0' hz
         go_wp2_with fail
         go_ret
         exact ⟨by rw [HE.out]; rfl, HBF.out⟩
        ·have hcn0 : chkNd a.nodes.length a.sets x = 0 := by rw [hcn, if_pos (by simpa using hz)]
         have HQ3 := dh (HQ2.out hcn0)
         rw [hz] at hsh
         clear hall hcn hcn0 hb2 hbw2 e3 k0' hz
         go_wp2_with fail
         exact ⟨⟨i + 1, by omega, congrArg (Value.int .i64) (by omega), HB2.out, HQ3⟩, by simp [intOf]; omega⟩
      ·have hin : i = nn := by omega
       subst hin
       have HE : Hid (chkA a = 0) := dh (by rw [HC2.out]; exact chkNds_ok (fun x hx => HQ.out x (by rw [HNN.out, List.take_length]; exact hx)))
       have HBF := dh (HB0.out.trans (hbr.mono (by have := HZ0.out; omega)))
       clear hbr
       go_wp2_with fail
       go_ret
       exact ⟨by rw [HE.out]; rfl, HBF.out⟩
end Go.Proofs.YtiebpncpdbnelaaGreatDoor
