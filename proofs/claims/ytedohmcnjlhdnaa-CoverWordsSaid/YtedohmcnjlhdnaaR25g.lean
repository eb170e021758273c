/- The walk of the reference of layer 25: Truths. -/
import Derived.Deep.RegionHeld3
import Derived.Test.YtedohmcnjlhdnaaR25c
import Derived.Test.YtedohmcnjlhdnaaR25f
namespace Go.Proofs.Ytedohmcnjlhdnaa
open Go.RowKit

def bitsOf (sets : List Int) (m : Int) (k : Nat) : Bool := (Go.bits .and .u64 (sets.getD k 0 / 2 ^ m.toNat) 1 == 1)

def truthsL (f : List Nd) (st lo : List Int) : List (List Bool) := if wrong f = 0 ∧ lo ≠ [] then rowsL (bitsOf (st ++ lo)) (st.length + lo.length) st.length f (spans f) f.length else []

theorem parts_eq {s : List Int} {k : Nat} {x : Nd} (h : 0 ≤ takesV x) : partsV s k x = parts0 s k x := by
  unfold partsV parts0; rw [takesV_eq h]

set_option maxHeartbeats 8000000 in
set_option maxRecDepth 100000 in
theorem Truths_any (A A1 A2 : Option Addr) (n c n1 c1 n2 c2 : Nat) (f : List Nd) (st lo : List Int) (w : World) (B B1 B2 : Nat) (hn : n = f.length) (hn1 : n1 = st.length) (hn2 : n2 = lo.length)
    (hf : Sl w B 2 A n c (ncells f)) (h1 : Sl w B1 1 A1 n1 c1 (ucells st)) (h2 : Sl w B2 1 A2 n2 c2 (ucells lo)) (hB : B ≤ w.heap.size) (hB1 : B1 ≤ w.heap.size) (hB2 : B2 ≤ w.heap.size) (hl : n ≤ 100000) (hl2 : n1 + n2 ≤ 1000) :
    Calls Try.prog 19 #[.slice A n c, .agg #[.slice A1 n1 c1, .slice A2 n2 c2]] w (GridPost w (truthsL f st lo)) := by
  subst hn
  have HN1 := Lib.hid hn1
  have HN2 := Lib.hid hn2
  clear hn1 hn2
  go_enter Try.func19, Try.ntmps19
  obtain ⟨w0, hw0⟩ : ∃ w0, w0 = w.alloc (.cells #[.slice A1 n1 c1, .slice A2 n2 c2] 27) := ⟨_, rfl⟩
  have hb0 : Below w.heap.size w w0 := by rw [hw0]; exact (Below.refl _ _).alloc (Nat.le_refl _) _
  have hx0 : w0.cell? ⟨w.heap.size, 0, none⟩ = some (.slice A1 n1 c1) ∧ w0.cell? ⟨w.heap.size, 1, none⟩ = some (.slice A2 n2 c2) := by
    rw [hw0]; exact ⟨by rw [cell_of_row _ _ _ _ _ _ (heap_alloc_new w _)]; rfl, by rw [cell_of_row _ _ _ _ _ _ (heap_alloc_new w _)]; rfl⟩
  have hsz0 : w0.heap.size = w.heap.size + 1 := by rw [hw0]; simp
  have HW0 := Lib.hid hw0
  clear hw0
  go_wp2_with fail
  rw [← HW0.out]
  clear HW0
  refine (Begins_any A c f w0 B (hf.below hb0 hB) (by omega) (by omega)).mono ?_
  rintro e w1 ⟨v1, rfl, hown1, hb1, _⟩
  have hz1 := hb1.size
  have hbw1 : Below w.heap.size w w1 := hb0.trans (hb1.mono (by omega))
  have hx1 : w1.cell? ⟨w.heap.size, 0, none⟩ = some (.slice A1 n1 c1) ∧ w1.cell? ⟨w.heap.size, 1, none⟩ = some (.slice A2 n2 c2) :=
    ⟨(hb1.cell (p := ⟨w.heap.size, 0, none⟩) (show w.heap.size < w0.heap.size by omega)).trans hx0.1, (hb1.cell (p := ⟨w.heap.size, 1, none⟩) (show w.heap.size < w0.heap.size by omega)).trans hx0.2⟩
  obtain ⟨hx1, hx2⟩ := hx1
  clear hx0 hb1
  by_cases hw : wrong f = 0
  · have hw' : (wrong f == 0) = true := by simp [hw]
    by_cases h0 : n2 = 0
    · subst h0
      have ht : truthsL f st lo = [] := by
        have : lo = [] := List.eq_nil_of_length_eq_zero HN2.out.symm
        simp [truthsL, this]
      have HT := Lib.hid ht
      clear ht hw
      go_wp2
      go_ret
      exact ⟨_, rfl, by rw [HT.out]; exact (Grid.nil w1).base hbw1⟩
    · have h0' : ((n2 : Int) == 0) = false := beq_eq_false_iff_ne.2 (by omega)
      have HW := Lib.hid hw
      clear hw
      have hs1 := h1.below hbw1 hB1
      have hs2 := h2.below hbw1 hB2
      have hzw1 := hbw1.size
      have hnil := World.ownsRow_nil w1 w1.heap.size 45 1
      go_wp2_with (first
        | (at_builtin; refine wpList_extend rfl (.tmp 27) (.tmp 29) 25 rfl w1.heap.size 45 1 8 sliceSets _ _ _ hnil rfl B1 A1 n1 c1 (ucells st) rfl hs1 (ucells_one st) (by omega) (by omega) (by omega) ?_; intro v2 w2 hown2 ht2 hat2 hnil2; have hz2 := ht2.size; have hb2 : Below w1.heap.size w1 w2 := ht2.below (Nat.le_refl _) (fun g hg h => by simp [Value.ownBlock] at h); have hy1 := (hb2.cell (p := ⟨w.heap.size, 0, none⟩) (show w.heap.size < w1.heap.size by omega)).trans hx1; have hy2 := (hb2.cell (p := ⟨w.heap.size, 1, none⟩) (show w.heap.size < w1.heap.size by omega)).trans hx2)
        | (at_builtin; refine wpList_extend rfl (.tmp 31) (.tmp 33) 25 rfl w1.heap.size 45 1 8 sliceSets _ _ _ hown2 rfl B2 A2 n2 c2 (ucells lo) rfl (hs2.below hb2 (by omega)) (ucells_one lo) (by omega) (by omega) (by omega) ?_; intro v3 w3 hown3 ht3 hat3 hnil3; have hz3 := ht3.size; have hb3 : Below w1.heap.size w2 w3 := ht3.below (by omega) (fun g hg h => by have := (hown2.lt g h).1; omega); have hy3 := (hb3.cell (p := ⟨w.heap.size, 0, none⟩) (show w.heap.size < w1.heap.size by omega)).trans hy1))
      rw [Nat.zero_add, List.nil_append, ← ucells_append] at hown3
      obtain ⟨As, cs, rfl, hss⟩ := own_sl hown3
      obtain ⟨Ab, cb, rfl, hsb1⟩ := own_sl hown1
      have hb13 : Below w1.heap.size w1 w3 := hb2.trans hb3
      have hsb := hsb1.below hb13 (Nat.le_refl _)
      have hbw3 : Below w.heap.size w w3 := hbw1.trans (hb13.mono hzw1)
      have hf3 := hf.below hbw3 hB
      have hzw3 := hbw3.size
      have hNs : n1 + n2 = (st ++ lo).length := by rw [List.length_append, ← HN1.out, ← HN2.out]
      have hlo : lo ≠ [] := by intro e; have := HN2.out; rw [e] at this; simp at this; omega
      have ht : truthsL f st lo = rowsL (bitsOf (st ++ lo)) (n1 + n2) n1 f (spans f) f.length := by rw [truthsL, if_pos ⟨HW.out, hlo⟩, ← HN1.out, ← HN2.out]
      have hbits : ∀ m k, bitsOf (st ++ lo) m k = (Go.bits .and .u64 ((st ++ lo).getD k 0 / 2 ^ m.toNat) 1 == 1) := fun _ _ => rfl
      have hlt12 : n1 < n1 + n2 := by omega
      obtain ⟨N, hN⟩ : ∃ N, N = n1 + n2 := ⟨_, rfl⟩
      rw [← hN] at hNs hown3 hss hlt12 ht ⊢
      have hNl : N ≤ 1000 := by omega
      generalize st ++ lo = sets at *
      generalize bitsOf sets = bt at *
      have HNS := Lib.hid hNs
      have HT := Lib.hid ht
      have HBT := Lib.hid hbits
      have hslen : (spans f).length = f.length := spans_len HW.out
      have hsp := fun k (x : Nd) (hx : f[k]? = some x) => step_r (bits := bt) (n := N) (lp := n1) HW.out hx
      have HSP := Lib.hid hsp
      have HSL := Lib.hid hslen
      clear hslen
      clear hNs hbits hlo ht hsp hown1 hown3 hsb1 hown2 ht2 ht3 hat2 hat3 hnil2 hnil3 hnil hx1 hx2 hy1 hy2 hb2 hb3 hs1 hs2 hb0 hb13 h1 h2 hN h0 h0' hw'
      have hG0 : Grid w3 w3 (.slice none 0 0) (rowsL bt N n1 f (spans f) 0) := Grid.nil w3
      go_loopw [8, 9] (fun v i wr => ∃ k : Nat, k ≤ f.length ∧ i = .int .i64 k ∧ Grid w3 wr v (rowsL bt N n1 f (spans f) k)) (fun _ i _ => f.length - (intOf i).toNat)
      case atStart => exact ⟨0, by omega, rfl, hG0⟩
      case round =>
        obtain ⟨k, hk, rfl, hG⟩ := hrel
        clear hG0
        have hbr : Below w3.heap.size w3 wr := hG.choose_spec.2.2
        have hzr := hbr.size
        by_cases hlt : k < f.length
        · have hfr := hf3.below hbr (by omega)
          have hsbr := hsb.below hbr (by omega)
          have hssr := hss.below hbr (Nat.le_refl _)
          obtain ⟨bf, of, rfl, hbf, hc0, hc1⟩ := rd_nd hfr.rd hlt
          have hS := HSP.out k f[k] (by simp [hlt])
          have hbad := (takesV_bad.1 (good_at HW.out hlt).2).1
          have hpe := parts_eq (s := spans f) (k := k) hbad
          have htv := takesV_eq hbad
          have hP := Parts_any _ f.length c f Ab (spans f).length cb (spans f) k wr B w3.heap.size rfl rfl hfr (hsbr.up (show w1.heap.size ≤ w3.heap.size by omega)) (by omega) hzr (by omega) hlt (by
            intro h2
            rw [htv] at h2
            obtain ⟨g1, v, gv, g2, g3⟩ := hS.two h2
            exact ⟨g1, v, gv, g2, by omega⟩)
          rw [hpe] at hP
          have hR1 : rowsL bt N n1 f (spans f) (k + 1) = rowsL bt N n1 f (spans f) k ++ [placesL bt N n1 f[k] (getR (rowsL bt N n1 f (spans f) k) (parts0 (spans f) k f[k]).1) (getR (rowsL bt N n1 f (spans f) k) (parts0 (spans f) k f[k]).2)] := by
            rw [rowsL, show f.getD k ⟨0, 0⟩ = f[k] by simp [List.getD, hlt]]
          have hRl : k ≤ (rowsL bt N n1 f (spans f) k).length := by rw [rowsL_len]; exact Nat.le_refl _
          have hRl2 : (rowsL bt N n1 f (spans f) k).length ≤ k := by rw [rowsL_len]; exact Nat.le_refl _
          have hg3 := (good_takes (good_at HW.out hlt).2).2.2
          have hg0 : 0 ≤ takes f[k].op := by omega
          have hSl := hS.l_len
          have hSr := hS.r_len
          have hS1 := hS.zero
          have hS2 := hS.one
          have hS3 := hS.l_one
          have hS4 := hS.r_two
          have hS5 := hS.l_lt
          have hS6 := hS.r_lt
          have hS7 := hS.l_ge
          have hS8 := hS.r_ge
          have HR1 := Lib.hid hR1
          clear hR1 hS hpe htv
          generalize rowsL bt N n1 f (spans f) k = R at *
          generalize parts0 (spans f) k f[k] = lr at *
          obtain ⟨l, r⟩ := lr
          dsimp only at *
          generalize hx : f[k] = x at *
          have Hx := Lib.hid hx
          clear hx
          obtain ⟨op, m⟩ := x
          dsimp only at *
          have hSr0 : ∀ (q : Int) (j : Nat), q = j → j < k → R[j]? = some (getR R q) := fun q j hq hj => by
            subst hq; simp [getR, List.getD, List.getElem?_eq_getElem (show j < R.length by omega)]
          have hyr := (hbr.cell (p := ⟨w.heap.size, 0, none⟩) (show w.heap.size < w3.heap.size by omega)).trans hy3
          have HG := Lib.hid hG
          have HP := Lib.hid hP
          clear hG hP
          have hT := takes_bd op
          have hpl : (placesL bt N n1 ⟨op, m⟩ (getR R l) (getR R r)).length = N := placesL_len (fun h => hSl (hS3 h))
          have HPL := Lib.hid hpl
          clear hpl
          have hG0 := HG.out
          obtain ⟨la, hla⟩ : ∃ la, la = getR R l := ⟨_, rfl⟩
          obtain ⟨lb, hlb⟩ : ∃ lb, lb = getR R r := ⟨_, rfl⟩
          have hlaN : 1 ≤ takes op → la.length = N := fun h => by rw [hla]; exact hSl (hS3 h)
          have hlbN : 2 ≤ takes op → lb.length = N := fun h => by rw [hlb]; exact hSr (hS4 h)
          rw [← hla, ← hlb] at HR1 HPL
          have HLA := Lib.hid hlaN
          have HLB := Lib.hid hlbN
          have hl0 : l = -1 → la = [] := fun h => by rw [hla, h, getR_neg]
          have hr0 : r = -1 → lb = [] := fun h => by rw [hlb, h, getR_neg]
          have hl1 := fun (j : Nat) (h : l = j) (hj : j < k) => hSr0 l j h hj
          have hr1 := fun (j : Nat) (h : r = j) (hj : j < k) => hSr0 r j h hj
          rw [← hla] at hl1
          rw [← hlb] at hr1
          clear hla hlb hlaN hlbN hSl hSr hSr0
          have key : (Grid w3 wr u8 R ∧ (((l = -1 ∧ r = -1) ∧ la = [] ∧ lb = []) ∨ (∃ j : Nat, j < k ∧ l = j ∧ r = -1 ∧ R[j]? = some la ∧ lb = []) ∨ (∃ j i : Nat, j < k ∧ i < k ∧ l = j ∧ r = i ∧ R[j]? = some la ∧ R[i]? = some lb))) := by
            refine ⟨hG0, ?_⟩
            rcases (show takes op = 0 ∨ takes op = 1 ∨ takes op = 2 by omega) with ht | ht | ht
            · have e0 := hS1 ht
              simp only [Prod.mk.injEq] at e0
              exact .inl ⟨e0, hl0 e0.1, hr0 e0.2⟩
            · have e1 := hS3 (by omega)
              have e2 := hS2 ht
              exact .inr (.inl ⟨l.toNat, by omega, by omega, e2, hl1 _ (by omega) (by omega), hr0 e2⟩)
            · have e1 := hS3 (by omega)
              have e2 := hS4 (by omega)
              exact .inr (.inr ⟨l.toNat, r.toNat, by omega, by omega, by omega, by omega, hl1 _ (by omega) (by omega), hr1 _ (by omega) (by omega)⟩)
          clear hS1 hS2 hS3 hS4 hS5 hS6 hS7 hS8 hl0 hr0 hl1 hr1 hG0
          obtain ⟨hG, ⟨⟨rfl, rfl⟩, rfl, rfl⟩ | ⟨j, hj, rfl, rfl, hrj, rfl⟩ | ⟨j, i, hj, hi, rfl, rfl, hrj, hri⟩⟩ := key
          · have HGR := Lib.hid hG
            clear hG
            go_wp2_with fail
            refine Calls.mono HP.out ?_
            rintro e w4 ⟨rfl, hb4⟩
            have hz4 := hb4.size
            have hG4 := Lib.hid (HGR.out.below hb4)
            have hc0' := (hb4.cell (p := ⟨bf, of + k * 2, none⟩) (show bf < wr.heap.size by omega)).trans hc0
            have hc1' := (hb4.cell (p := ⟨bf, of + k * 2 + 1, none⟩) (show bf < wr.heap.size by omega)).trans hc1
            have hy4 := (hb4.cell (p := ⟨w.heap.size, 0, none⟩) (show w.heap.size < wr.heap.size by omega)).trans hyr
            have hss4 := hssr.below hb4 hzr
            have hi0 : (0 : Int) ≤ (k : Int) := by omega
            have hi1 : (k : Int) < (f.length : Int) := by omega
            have hSa : Sl w4 w4.heap.size 1 none 0 0 (bcells []) := Sl.none_ _ _ _
            have hSb := hSa
            clear hc0 hc1 hyr hy3
            obtain ⟨vs, hv4, hvs4, hbg4⟩ := hG4.out
            have HVS := Lib.hid hvs4
            clear hvs4
            have hP := places25_any ⟨op, m⟩ As _ _ N cs _ _ _ _ sets n1 [] [] bt w4.drew w3.heap.size w4.heap.size w4.heap.size HNS.out rfl rfl (hss4.drew) hSa.drew hSb.drew (show w3.heap.size ≤ w4.heap.size by omega) (Nat.le_refl _) (Nat.le_refl _) (by omega) hlt12 hg0 hg3 HBT.out (fun h => HLA.out h) (fun h => HLB.out h)
            have HP2 := Lib.hid hP
            clear hP
            go_wp2_with fail
            go_region_held3 (fun w' => w'.cell? ⟨bf, of + k * 2, none⟩ = some (.int .i64 op) ∧ w'.cell? ⟨bf, of + k * 2 + 1, none⟩ = some (.int .i64 m) ∧ w'.cell? ⟨w.heap.size, 0, none⟩ = some (.slice A1 n1 c1))
              (go_keep)
              (first
                | (go_at_call 38; refine Calls.mono HP2.out ?_; rintro e w5 ⟨v5, rfl, hown5, hb5, _⟩; (obtain ⟨A5, c5, rfl, hs5⟩ := own_sl hown5); have k0 := (hb5.cell (p := ⟨bf, of + k * 2, none⟩) (show bf < w4.heap.size by omega)).trans hc0'; have k1 := (hb5.cell (p := ⟨bf, of + k * 2 + 1, none⟩) (show bf < w4.heap.size by omega)).trans hc1'; have k2 := (hb5.cell (p := ⟨w.heap.size, 0, none⟩) (show w.heap.size < w4.heap.size by omega)).trans hy4; have hz5 : w4.heap.size ≤ w5.heap.size := hb5.size; have hv5 := own_below (w := w4.drew) hv4 hb5)
                | (refine step_push rfl (.tmp 60) (.tmp 72) 32 rfl w3.heap.size 35 1 24 sliceRows _ R.length vs (hv5.alloc _) rfl w5.heap.size #[.slice A5 N c5] rfl (heap_alloc_new w5 _) rfl (by simp [Value.oneCell']) (by omega) (by omega) (by simp; omega) ?_; intro v6 w6 hown6 ht6 hat6 hne6; have hb6 : Below w3.heap.size w5 w6 := ((Below.refl w3.heap.size w5).alloc (by omega) (.cells #[.slice A5 N c5] 35)).trans (ht6.below (by simp; omega) (fun g hg h => by have := (hv5.lt g h).1; omega)); have k6 := (hb6.cell (p := ⟨bf, of + k * 2, none⟩) (show bf < w3.heap.size by omega)).trans k0; have k7 := (hb6.cell (p := ⟨bf, of + k * 2 + 1, none⟩) (show bf < w3.heap.size by omega)).trans k1; have k8 := (hb6.cell (p := ⟨w.heap.size, 0, none⟩) (show w.heap.size < w3.heap.size by omega)).trans k2))
            go_wp2
            go_roundw
            case rel => exact ⟨k + 1, by omega, by go_num, by rw [HR1.out]; exact grid_step hG4.out hv4 HVS.out hb5 hown5 HPL.out hown6 ht6⟩
            case measure => simp [intOf]; omega
          · have hRp : 0 < R.length := by omega
            obtain ⟨g8, cap8, rfl⟩ := hG.form hRp
            have HGR := Lib.hid hG
            clear hG
            go_wp2_with fail
            refine Calls.mono HP.out ?_
            rintro e w4 ⟨rfl, hb4⟩
            have hz4 := hb4.size
            have hG4 := Lib.hid (HGR.out.below hb4)
            have hc0' := (hb4.cell (p := ⟨bf, of + k * 2, none⟩) (show bf < wr.heap.size by omega)).trans hc0
            have hc1' := (hb4.cell (p := ⟨bf, of + k * 2 + 1, none⟩) (show bf < wr.heap.size by omega)).trans hc1
            have hy4 := (hb4.cell (p := ⟨w.heap.size, 0, none⟩) (show w.heap.size < wr.heap.size by omega)).trans hyr
            have hss4 := hssr.below hb4 hzr
            have hi0 : (0 : Int) ≤ (k : Int) := by omega
            have hi1 : (k : Int) < (f.length : Int) := by omega
            obtain ⟨Aa, ca, hca, hSa⟩ := hG4.out.cellAt hrj
            have hSb : Sl w4 w4.heap.size 1 none 0 0 (bcells []) := Sl.none_ _ _ _
            have hj0 : (0 : Int) ≤ (j : Int) := by omega
            have hj1 : (j : Int) < (R.length : Int) := by omega
            have HRJ := Lib.hid hrj
            clear hrj
            clear hc0 hc1 hyr hy3
            obtain ⟨vs, hv4, hvs4, hbg4⟩ := hG4.out
            have HVS := Lib.hid hvs4
            clear hvs4
            have hP := places25_any ⟨op, m⟩ As _ _ N cs _ _ _ _ sets n1 la [] bt w4.drew w3.heap.size w4.heap.size w4.heap.size HNS.out rfl rfl (hss4.drew) hSa.drew hSb.drew (show w3.heap.size ≤ w4.heap.size by omega) (Nat.le_refl _) (Nat.le_refl _) (by omega) hlt12 hg0 hg3 HBT.out (fun h => HLA.out h) (fun h => HLB.out h)
            have HP2 := Lib.hid hP
            clear hP
            go_wp2_with fail
            go_region_held3 (fun w' => w'.cell? ⟨bf, of + k * 2, none⟩ = some (.int .i64 op) ∧ w'.cell? ⟨bf, of + k * 2 + 1, none⟩ = some (.int .i64 m) ∧ w'.cell? ⟨w.heap.size, 0, none⟩ = some (.slice A1 n1 c1))
              (go_keep)
              (first
                | (go_at_call 38; refine Calls.mono HP2.out ?_; rintro e w5 ⟨v5, rfl, hown5, hb5, _⟩; (obtain ⟨A5, c5, rfl, hs5⟩ := own_sl hown5); have k0 := (hb5.cell (p := ⟨bf, of + k * 2, none⟩) (show bf < w4.heap.size by omega)).trans hc0'; have k1 := (hb5.cell (p := ⟨bf, of + k * 2 + 1, none⟩) (show bf < w4.heap.size by omega)).trans hc1'; have k2 := (hb5.cell (p := ⟨w.heap.size, 0, none⟩) (show w.heap.size < w4.heap.size by omega)).trans hy4; have hz5 : w4.heap.size ≤ w5.heap.size := hb5.size; have hv5 := own_below (w := w4.drew) hv4 hb5)
                | (refine step_push rfl (.tmp 60) (.tmp 72) 32 rfl w3.heap.size 35 1 24 sliceRows _ R.length vs (hv5.alloc _) rfl w5.heap.size #[.slice A5 N c5] rfl (heap_alloc_new w5 _) rfl (by simp [Value.oneCell']) (by omega) (by omega) (by simp; omega) ?_; intro v6 w6 hown6 ht6 hat6 hne6; have hb6 : Below w3.heap.size w5 w6 := ((Below.refl w3.heap.size w5).alloc (by omega) (.cells #[.slice A5 N c5] 35)).trans (ht6.below (by simp; omega) (fun g hg h => by have := (hv5.lt g h).1; omega)); have k6 := (hb6.cell (p := ⟨bf, of + k * 2, none⟩) (show bf < w3.heap.size by omega)).trans k0; have k7 := (hb6.cell (p := ⟨bf, of + k * 2 + 1, none⟩) (show bf < w3.heap.size by omega)).trans k1; have k8 := (hb6.cell (p := ⟨w.heap.size, 0, none⟩) (show w.heap.size < w3.heap.size by omega)).trans k2))
            go_wp2
            go_roundw
            case rel => exact ⟨k + 1, by omega, by go_num, by rw [HR1.out]; exact grid_step hG4.out hv4 HVS.out hb5 hown5 HPL.out hown6 ht6⟩
            case measure => simp [intOf]; omega
          · have hRp : 0 < R.length := by omega
            obtain ⟨g8, cap8, rfl⟩ := hG.form hRp
            have HGR := Lib.hid hG
            clear hG
            go_wp2_with fail
            refine Calls.mono HP.out ?_
            rintro e w4 ⟨rfl, hb4⟩
            have hz4 := hb4.size
            have hG4 := Lib.hid (HGR.out.below hb4)
            have hc0' := (hb4.cell (p := ⟨bf, of + k * 2, none⟩) (show bf < wr.heap.size by omega)).trans hc0
            have hc1' := (hb4.cell (p := ⟨bf, of + k * 2 + 1, none⟩) (show bf < wr.heap.size by omega)).trans hc1
            have hy4 := (hb4.cell (p := ⟨w.heap.size, 0, none⟩) (show w.heap.size < wr.heap.size by omega)).trans hyr
            have hss4 := hssr.below hb4 hzr
            have hi0 : (0 : Int) ≤ (k : Int) := by omega
            have hi1 : (k : Int) < (f.length : Int) := by omega
            obtain ⟨Aa, ca, hca, hSa⟩ := hG4.out.cellAt hrj
            obtain ⟨Ab', cb', hcb, hSb⟩ := hG4.out.cellAt hri
            have hj0 : (0 : Int) ≤ (j : Int) := by omega
            have hj1 : (j : Int) < (R.length : Int) := by omega
            have hi2 : (0 : Int) ≤ (i : Int) := by omega
            have hi3 : (i : Int) < (R.length : Int) := by omega
            have HRJ := Lib.hid hrj
            have HRI := Lib.hid hri
            clear hrj hri
            clear hc0 hc1 hyr hy3
            obtain ⟨vs, hv4, hvs4, hbg4⟩ := hG4.out
            have HVS := Lib.hid hvs4
            clear hvs4
            have hP := places25_any ⟨op, m⟩ As _ _ N cs _ _ _ _ sets n1 la lb bt w4.drew w3.heap.size w4.heap.size w4.heap.size HNS.out rfl rfl (hss4.drew) hSa.drew hSb.drew (show w3.heap.size ≤ w4.heap.size by omega) (Nat.le_refl _) (Nat.le_refl _) (by omega) hlt12 hg0 hg3 HBT.out (fun h => HLA.out h) (fun h => HLB.out h)
            have HP2 := Lib.hid hP
            clear hP
            go_wp2_with fail
            go_region_held3 (fun w' => w'.cell? ⟨bf, of + k * 2, none⟩ = some (.int .i64 op) ∧ w'.cell? ⟨bf, of + k * 2 + 1, none⟩ = some (.int .i64 m) ∧ w'.cell? ⟨w.heap.size, 0, none⟩ = some (.slice A1 n1 c1))
              (go_keep)
              (first
                | (go_at_call 38; refine Calls.mono HP2.out ?_; rintro e w5 ⟨v5, rfl, hown5, hb5, _⟩; (obtain ⟨A5, c5, rfl, hs5⟩ := own_sl hown5); have k0 := (hb5.cell (p := ⟨bf, of + k * 2, none⟩) (show bf < w4.heap.size by omega)).trans hc0'; have k1 := (hb5.cell (p := ⟨bf, of + k * 2 + 1, none⟩) (show bf < w4.heap.size by omega)).trans hc1'; have k2 := (hb5.cell (p := ⟨w.heap.size, 0, none⟩) (show w.heap.size < w4.heap.size by omega)).trans hy4; have hz5 : w4.heap.size ≤ w5.heap.size := hb5.size; have hv5 := own_below (w := w4.drew) hv4 hb5)
                | (refine step_push rfl (.tmp 60) (.tmp 72) 32 rfl w3.heap.size 35 1 24 sliceRows _ R.length vs (hv5.alloc _) rfl w5.heap.size #[.slice A5 N c5] rfl (heap_alloc_new w5 _) rfl (by simp [Value.oneCell']) (by omega) (by omega) (by simp; omega) ?_; intro v6 w6 hown6 ht6 hat6 hne6; have hb6 : Below w3.heap.size w5 w6 := ((Below.refl w3.heap.size w5).alloc (by omega) (.cells #[.slice A5 N c5] 35)).trans (ht6.below (by simp; omega) (fun g hg h => by have := (hv5.lt g h).1; omega)); have k6 := (hb6.cell (p := ⟨bf, of + k * 2, none⟩) (show bf < w3.heap.size by omega)).trans k0; have k7 := (hb6.cell (p := ⟨bf, of + k * 2 + 1, none⟩) (show bf < w3.heap.size by omega)).trans k1; have k8 := (hb6.cell (p := ⟨w.heap.size, 0, none⟩) (show w.heap.size < w3.heap.size by omega)).trans k2))
            go_wp2
            go_roundw
            case rel => exact ⟨k + 1, by omega, by go_num, by rw [HR1.out]; exact grid_step hG4.out hv4 HVS.out hb5 hown5 HPL.out hown6 ht6⟩
            case measure => simp [intOf]; omega
        · have hkl : f.length = k := by omega
          have HKL := Lib.hid hkl
          have hk' : decide ((k : Int) < (f.length : Int)) = false := by simp; omega
          rw [← hkl] at hG
          go_wp2
          go_ret
          exact ⟨_, rfl, by rw [HT.out]; exact hG.base hbw3⟩
  · have hw' : (wrong f == 0) = false := by simpa using hw
    have ht : truthsL f st lo = [] := by simp [truthsL, hw]
    have HT := Lib.hid ht
    clear ht hw
    go_wp2
    go_ret
    exact ⟨_, rfl, by rw [HT.out]; exact (Grid.nil w1).base hbw1⟩
end Go.Proofs.Ytedohmcnjlhdnaa
