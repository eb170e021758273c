/- The law FixStays. -/
import Derived.Test.YtfpncpjdmgfkbaaFx20
import Derived.Test.YtfpncpjdmgfkbaaFixS
namespace Go.Proofs.Ytfpncpjdmgfkbaa
open Go.RowKit

/-- Rows of edges under way, and the graph's box that holds them. -/
def BRows (w0 : World) (r g ne : Nat) (R : List (List Nd)) (wr : World) : Prop :=
  WRows w0 r ne R wr ∧ wr.heap[g]? = some (.cells #[.slice none 0 0, .slice (some ⟨r, 0, none⟩) ne ne, .slice none 0 0] 26 (0, 0))
theorem BRows.below {w0 w w' : World} {r g ne : Nat} {R : List (List Nd)} (h : BRows w0 r g ne R w) (hb : Below w.heap.size w w') : BRows w0 r g ne R w' :=
  ⟨h.1.below hb, (hb.block _ (lt_of_block h.2)).trans h.2⟩
theorem BRows.grow {w0 w w1 w2 : World} {r g ne : Nat} {R : List (List Nd)} {t n n' : Nat} {u u' : Value} {vs ys0 : List Value} {ys : List Nd} {o : Obj} (h : BRows w0 r g ne R w)
    (h2 : Own2 w w0.heap.size 42 34 2 (.slice (some ⟨r, 0, none⟩) ne ne) (R.map ncells) vs)
    (h5 : Below w0.heap.size w0 w) (hw : w1 = w.alloc o) (hu : vs[t]? = some u) (huo : w.ownsRow w0.heap.size 42 2 u n ys0)
    (hown : w2.ownsRow w0.heap.size 42 2 u' n' (ncells ys)) (ht : Tch (fun k => u.ownBlock = some k) w1 w2) (hat : u'.ownBlock = u.ownBlock ∨ u'.ownBlock = some w1.heap.size) :
    w2.cell? ⟨r, t, none⟩ = some u ∧ w2.frozen? ⟨r, t, none⟩ = false ∧ (∀ b, b < w.heap.size → (∀ g, u.ownBlock = some g → g ≠ b) → ∀ o, w2.cell? ⟨b, o, none⟩ = w.cell? ⟨b, o, none⟩) ∧
      BRows w0 r g ne (R.set t ys) (w2.setCell ⟨r, t, none⟩ u') := by
  obtain ⟨a1, a2, a3, a4⟩ := WRows.grow h2 h5 hw hu huo hown ht hat
  refine ⟨a1, a2, a3, a4, ?_⟩
  subst hw
  have ht' : Tch (fun k => u.ownBlock = some k) w w2 := Tch.trans ((Tch.refl _ w).alloc _) ht (fun _ _ h => h)
  have hb2 := ht'.blk h.2 (fun e => own_ne_blk huo h.2 (by decide) e)
  exact ((Tch.refl (fun k => k = r) w2).setCell (p := ⟨r, t, none⟩) (fun _ => rfl) u').blk hb2 (fun e => own_ne_blk h2.main h.2 (by decide) (by rw [e]; rfl))

section
variable (ai ae al : Option Addr) (ni ci ne ce nl cl : Nat)
set_option maxHeartbeats 8000000 in
set_option maxRecDepth 100000 in
theorem FixStays_any (As : Option Addr) (ns cs : Nat) (G : Gph) (sets : List (List Bool)) (w : World) (B : Nat) (h : GrRd w B ai ni ci ae ne ce al nl cl G) (hs : Sl2 w B 1 As ns cs (sets.map bcells)) (hB : B ≤ w.heap.size) :
    Calls Try.prog 13 #[.agg #[.slice ai ni ci, .slice ae ne ce, .slice al nl cl], .slice As ns cs] w (Tru w true) := by
  obtain ⟨wb, hwb, hbb, hzb, hx0, hx1, hx2⟩ := boxed3 w (.slice ai ni ci) (.slice ae ne ce) (.slice al nl cl) 26
  have HWB := Lib.hid hwb
  have h' := h.below hbb hB
  have hs' := hs.below hbb hB
  have HHV := Lib.hid (heavyF_any ai ae al ni ci ne ce nl cl G sets As ns cs wb B h' hs' (by omega))
  obtain ⟨L1, L2, L3⟩ := h.lens
  have L4 : ns = sets.length := by have := hs.len; simpa using this
  have hgb : w.heap.size < wb.heap.size := by omega
  have hBb : B ≤ wb.heap.size := by omega
  clear hwb hzb h hs
  cases hv : heavyF G sets
  rotate_left 1
  · have HV := Lib.hid hv
    clear hv L1 L2 L3 L4
    go_enter Try.func13, Try.ntmps13
    go_wp2_with fail
    rw [← HWB.out]
    refine HHV.out.mono ?_
    rw [HV.out]
    rintro e w1 ⟨rfl, hb1⟩
    have hz1 := hb1.size
    go_wp2_with fail
    refine (awakeF_any _).mono ?_
    rintro e w2 ⟨rfl, hb2⟩
    have HB2 := Lib.hid (hbb.trans ((hb1.trans (hb2.mono hb1.size)).mono (by omega)))
    go_wp2
    go_ret
    exact ⟨rfl, HB2.out⟩
  obtain ⟨q1, q2, q3, q4, q5⟩ := heavyF_bd hv
  obtain ⟨z, hz⟩ := gfp_exists G.edges (asksOf sets)
  have hzn : ne = z.length := by rw [hz.1, L2]
  have b1 : ne ≤ 60 := by omega
  have b2 : ni ≤ 60 := by omega
  have b3 : ns ≤ 8 := by omega
  have HV := Lib.hid hv
  have HZ := Lib.hid hz
  have HZN := Lib.hid hzn
  have HR := Lib.hid q4
  have HLS := Lib.hid q5
  have HSN := Lib.hid L4
  have H2 := Lib.hid L2
  clear hv hz hzn q1 q2 q3 q4 q5 L1 L2 L3 L4
  have hG1 := fun (W : World) (hb : Below wb.heap.size wb W) => (h'.below hb hBb).up (show B ≤ W.heap.size by have := hb.size; omega)
  have hE1 := fun (W : World) (hb : Below wb.heap.size wb W) => (hs'.below hb hBb).up (show B ≤ W.heap.size by have := hb.size; omega)
  go_enter Try.func13, Try.ntmps13
  go_wp2_with fail
  rw [← HWB.out]
  refine HHV.out.mono ?_
  rw [HV.out]
  rintro e w1 ⟨rfl, hb1⟩
  have hz1 := hb1.size
  have hgl1 : w.heap.size < w1.heap.size := by omega
  have a0 := (hb1.cell (p := ⟨w.heap.size, 0, none⟩) hgb).trans hx0
  have a1 := (hb1.cell (p := ⟨w.heap.size, 1, none⟩) hgb).trans hx1
  have a2 := (hb1.cell (p := ⟨w.heap.size, 2, none⟩) hgb).trans hx2
  go_wp2_with fail
  refine (ffair_any ai ae al ni ci ne ce nl cl G sets As ns cs z w1 w1.heap.size (hG1 w1 hb1) (hE1 w1 hb1) HZ.out (Nat.le_refl _) (by omega) 30 HR.out (by omega) (by omega)).mono ?_
  rintro e w2 ⟨vz, rfl, hOz, hb2, _⟩
  obtain ⟨Az, cz, rfl, hsz⟩ := own_sl hOz
  have hz2 := hb2.size
  have hbw2 : Below wb.heap.size wb w2 := hb1.trans (hb2.mono hz1)
  clear a0 a1 a2 hOz
  have q0 := (hbw2.cell (p := ⟨w.heap.size, 0, none⟩) hgb).trans hx0
  have q1 := (hbw2.cell (p := ⟨w.heap.size, 1, none⟩) hgb).trans hx1
  have q2 := (hbw2.cell (p := ⟨w.heap.size, 2, none⟩) hgb).trans hx2
  have hgl2 : w.heap.size < w2.heap.size := by omega
  have hd1 : ((ne : Int) != (ne : Int)) = false := by simp
  have hmk := run_make_row' (P := Try.prog) 23 34 (.slice none 0 0) 24 Try.underlying23 infoRowE rfl .i64 .i64 ne (by omega) (by omega)
  have HG2 := Lib.hid (hG1 w2 hbw2)
  have HG1 := Lib.hid hG1
  have HE1 := Lib.hid hE1
  clear hG1 hE1 h' hs' HHV
  go_wp2
  have hT0 := WRows.start (w0 := w2) (ne := ne) (by omega)
  have hT : BRows w2 w2.heap.size (w2.alloc (.cells (madeCells #[.slice none 0 0] ne) 34)).heap.size ne (List.replicate ne []) ((w2.alloc (.cells (madeCells #[.slice none 0 0] ne) 34)).alloc (.cells #[.slice none 0 0, .slice (some ⟨w2.heap.size, 0, none⟩) ne ne, .slice none 0 0] 26)) := ⟨hT0.below ((Below.refl _ _).alloc (Nat.le_refl _) _), heap_alloc_new _ _⟩
  obtain ⟨wc, hwc⟩ : ∃ W, W = (w2.alloc (.cells (madeCells #[.slice none 0 0] ne) 34)).alloc (.cells #[.slice none 0 0, .slice (some ⟨w2.heap.size, 0, none⟩) ne ne, .slice none 0 0] 26) := ⟨_, rfl⟩
  rw [← hwc] at hT
  rw [← hwc]
  obtain ⟨gi, hgi⟩ : ∃ g, g = w2.heap.size + 1 := ⟨_, rfl⟩
  rw [show (w2.alloc (.cells (madeCells #[.slice none 0 0] ne) 34)).heap.size = w2.heap.size + 1 by simp, ← hgi] at hT
  rw [← hgi]
  obtain ⟨r, hre⟩ : ∃ r, r = w2.heap.size := ⟨_, rfl⟩
  rw [← hre]
  have hr1 : w2.heap.size ≤ r := by omega
  have hrg : r < gi := by omega
  rw [show BRows w2 w2.heap.size gi ne (List.replicate ne []) wc = BRows w2 r gi ne (List.replicate ne []) wc by rw [hre]] at hT
  rw [H2.out, ← withinR_zero G.edges z, ← H2.out] at hT
  clear hwc hre hgi hmk hT0
  go_loopw [7, 8, 9] (fun i _ _ wr => ∃ a : Nat, a ≤ ne ∧ i = .int .i64 a ∧ BRows w2 r gi ne (withinR G.edges z a) wr) (fun i _ _ _ => ne - (intOf i).toNat)
  case atStart => exact ⟨0, by omega, rfl, hT⟩
  case round =>
    obtain ⟨a, ha, rfl, hT⟩ := hrel
    obtain ⟨wp, rfl⟩ : ∃ wp : World, wp = wr := ⟨_, rfl⟩
    have hbel : Below w2.heap.size w2 wp := hT.1.choose_spec.2
    have hzp := hbel.size
    have e1 := (hbel.cell (p := ⟨w.heap.size, 1, none⟩) hgl2).trans q1
    by_cases hlt : a < ne
    · have hal : a < G.edges.length := by rw [← H2.out]; exact hlt
      have haz : a < z.length := by rw [← HZN.out]; exact hlt
      obtain ⟨b, o, A', n', c', rfl, hbb, hc00, hrow⟩ := HG2.out.he.at_ (ed_take hal)
      have hc0 := (hbel.cell (p := ⟨b, o + a, none⟩) (show b < w2.heap.size by omega)).trans hc00
      have hlen := HR.out G.edges[a] (List.getElem_mem hal)
      have hnx : n' = G.edges[a].length := by have := hrow.len; rw [ncells_len] at this; omega
      have hsucc := withinR_succ (z := z) hal
      have hR0 : BRows w2 r gi ne ((withinR G.edges z a).set a ((G.edges[a].take 0).filter (keepE z a))) wp := by rw [List.take_zero, List.filter_nil, ← withinR_at hal]; exact hT
      have hRl : (withinR G.edges z a).length = ne := by rw [withinR_len, ← H2.out]
      have hst : ∀ e ∈ G.edges[a], hasB z e.op = true → z.getD a false = true := fun e he hb => stays_pred HZ.out hal (by simpa [List.getD, hal] using he) hb
      generalize G.edges[a] = x at *
      generalize withinR G.edges z a = R at *
      subst hnx
      have HSU := Lib.hid hsucc
      have HRL := Lib.hid hRl
      have HST := Lib.hid hst
      clear hsucc hRl hT hst
      go_wp2
      clear e1 hc0
      go_loopw [8, 9] (fun i _ wr => ∃ m : Nat, m ≤ x.length ∧ i = .int .i64 m ∧ BRows w2 r gi ne (R.set a ((x.take m).filter (keepE z a))) wr) (fun i _ _ => x.length - (intOf i).toNat)
      case atStart => exact ⟨0, by omega, rfl, hR0⟩
      case round =>
        obtain ⟨m, hm, rfl, hT⟩ := hrel
        clear hR0
        have hbr : Below w2.heap.size w2 wr := hT.1.choose_spec.2
        have f0 := (hbr.cell (p := ⟨w.heap.size, 0, none⟩) hgl2).trans q0
        have f1 := (hbr.cell (p := ⟨w.heap.size, 1, none⟩) hgl2).trans q1
        have f2 := (hbr.cell (p := ⟨w.heap.size, 2, none⟩) hgl2).trans q2
        have hc0r := (hbr.cell (p := ⟨b, o + a, none⟩) (show b < w2.heap.size by omega)).trans hc00
        have j0 : (0 : Int) ≤ (a : Int) := by omega
        have j1 : (a : Int) < (ne : Int) := by omega
        have hzr2 := hbr.size
        by_cases hltm : m < x.length
        · obtain ⟨bb, oo, rfl, hbbb, hd0, hd1⟩ := rd_nd (hrow.rd.below hbr (by omega)) hltm
          have hsn := filter_snoc (keepE z a) hltm
          have hbd : ((x.take m).filter (keepE z a)).length ≤ m := Nat.le_trans (List.length_filter_le _ _) (by rw [List.length_take]; omega)
          have hke : keepE z a x[m] = (z.getD a false && hasB z x[m].op) := rfl
          have hsx := HST.out x[m] (List.getElem_mem hltm)
          obtain ⟨zb, zo, hze, hzb0, hzca⟩ := (hsz.rd.below hbr (by omega)).at_ (bcells'_at haz)
          subst hze
          generalize (x.take m).filter (keepE z a) = y at *
          generalize keepE z a x[m] = kk at *
          generalize x[m] = e at *
          obtain ⟨op, act⟩ := e
          dsimp only at *
          have hzw : w.heap.size < wr.heap.size := by omega
          have hbw : b < wr.heap.size := by omega
          have hbbw : bb < wr.heap.size := by omega
          have m0 : (0 : Int) ≤ (m : Int) := by omega
          have m1 : (m : Int) < (x.length : Int) := by omega
          have HSN := Lib.hid hsn
          have HKE := Lib.hid hke
          have HTW := Lib.hid hT
          have HBD := Lib.hid hbd
          have HSX := Lib.hid hsx
          clear hsn hke hT hbd hsx
          cases hnd : isNd ne op
          · have HND := Lib.hid hnd
            have HKF : Hid (kk = false) := Lib.hid (by rw [HKE.out, hasB, ← HZN.out, hnd, Bool.false_and, Bool.and_false])
            clear hnd hzca
            go_wp2_with fail
            refine (nodeR_any ai _ al ni ci ne ce nl cl op _).mono ?_
            rw [HND.out]
            rintro e w6 ⟨rfl, hb2⟩
            have HT2 := Lib.hid (HTW.out.below hb2)
            clear f0 f1 f2 hc0r hd0 hd1
            go_wp2
            go_roundw
            case rel => exact ⟨m + 1, by omega, by go_num, by rw [HSN.out, if_neg (by rw [HKF.out]; decide), List.append_nil]; exact HT2.out⟩
            case measure => simp [intOf]; omega
          · obtain ⟨j, rfl, hjn⟩ := isNd_nat hnd
            have hjz : j < z.length := by rw [← HZN.out]; exact hjn
            obtain ⟨zb', zo', hze', _, hzc⟩ := (hsz.rd.below hbr (by omega)).at_ (bcells'_at hjz)
            cases hze'
            have hhb : hasB z (j : Int) = z.getD j false := hasB_nat hjz
            rw [hhb] at HKE HSX
            have HND := Lib.hid hnd
            have HHB := Lib.hid hhb
            generalize z.getD j false = zv at *
            have i0 : (0 : Int) ≤ (j : Int) := by omega
            have i1 : (j : Int) < (ne : Int) := by omega
            have hzbw : zb < wr.heap.size := by omega
            clear hnd hhb
            cases zv
            · have HKF : Hid (kk = false) := Lib.hid (by rw [HKE.out, Bool.and_false])
              clear hzca
              go_wp2_with fail
              refine (nodeR_any ai _ al ni ci ne ce nl cl (j : Int) _).mono ?_
              rw [HND.out]
              rintro e w6 ⟨rfl, hb2⟩
              have HT2 := Lib.hid (HTW.out.below hb2)
              have k6 := (hb2.cell (p := ⟨zb, zo + j, none⟩) hzbw).trans hzc
              clear f0 f1 f2 hc0r hd0 hd1 hzc
              go_wp2
              go_roundw
              case rel => exact ⟨m + 1, by omega, by go_num, by rw [HSN.out, if_neg (by rw [HKF.out]; decide), List.append_nil]; exact HT2.out⟩
              case measure => simp [intOf]; omega
            · have hza : z.getD a false = true := HSX.out rfl
              rw [hza] at HKE hzca
              rw [Bool.true_and] at HKE
              have HKT := HKE
              clear hza
              go_wp2_with fail
              refine (nodeR_any ai _ al ni ci ne ce nl cl (j : Int) _).mono ?_
              rw [HND.out]
              rintro e w6 ⟨rfl, hb2⟩
              have k0 := (hb2.cell (p := ⟨w.heap.size, 0, none⟩) hzw).trans f0
              have k1 := (hb2.cell (p := ⟨w.heap.size, 1, none⟩) hzw).trans f1
              have k2 := (hb2.cell (p := ⟨w.heap.size, 2, none⟩) hzw).trans f2
              have k3 := (hb2.cell (p := ⟨b, o + a, none⟩) hbw).trans hc0r
              have k4 := (hb2.cell (p := ⟨bb, oo + m * 2, none⟩) hbbw).trans hd0
              have k5 := (hb2.cell (p := ⟨bb, oo + m * 2 + 1, none⟩) hbbw).trans hd1
              have k6 := (hb2.cell (p := ⟨zb, zo + j, none⟩) hzbw).trans hzc
              have k7 := (hb2.cell (p := ⟨zb, zo + a, none⟩) hzbw).trans hzca
              clear f0 f1 f2 hc0r hd0 hd1 hzc hzca
              go_wp2_with fail
              clear k6 k7
              skip
              obtain ⟨⟨vs, s2, s5⟩, sB⟩ := HTW.out
              have t2 := s2.below hb2
              have t5 := s5.trans (hb2.mono s5.size)
              have tB := (hb2.block _ (lt_of_block sB)).trans sB
              have hrlt := fun (j : Nat) (v : Value) (hv : vs[j]? = some v) => s2.rowlt hv
              clear s2 s5 sB
              have haR : a < R.length := by rw [HRL.out]; exact hlt
              obtain ⟨u, n0, hu, ho⟩ := t2.row a (ncells y) (by simp [haR])
              have hn0 : n0 = y.length := by have := ho.1; rw [ncells_len] at this; omega
              have hnb : n0 ≤ m := by have := HBD.out; omega
              obtain ⟨Au, cu, rfl, hsu⟩ := own_sl ho
              have d0 := t2.cell hu
              have d1 := t2.frozen a
              have hrl : r < w6.heap.size := (t2.main.lt r rfl).2
              have hwl : wr.heap.size ≤ w6.heap.size := hb2.size
              have hune : ∀ g', (Value.slice Au n0 cu).ownBlock = some g' → w2.heap.size ≤ g' := fun g' hg' => (hrlt a _ hu g' hg').1
              obtain ⟨⟨x0, x1, x2⟩, _, hgl6⟩ := blk3 tB
              clear hrlt
              have HU := Lib.hid hu
              have HN0 := Lib.hid hn0
              have hnw := heap_alloc_new w6 (.cells #[.int .i64 (j : Int), .int .i64 act] 42)
              clear hu hn0 x0 x2
              refine wp_region_T (S := fun w' => w'.cell? ⟨gi, 1, none⟩ = some (.slice (some ⟨r, 0, none⟩) ne ne) ∧ w'.cell? ⟨w.heap.size, 1, none⟩ = some (.slice (some ⟨b, o, none⟩) ne ce) ∧ w'.cell? ⟨b, o + a, none⟩ = some (.slice (some ⟨bb, oo, none⟩) x.length c') ∧ w'.cell? ⟨bb, oo + m * 2, none⟩ = some (.int .i64 (j : Int)) ∧ w'.cell? ⟨bb, oo + m * 2 + 1, none⟩ = some (.int .i64 act) ∧ w'.cell? ⟨r, a, none⟩ = some (.slice Au n0 cu)) 19 (by kernel_rfl) ⟨x1, k1, k3, k4, k5, d0⟩ (fun hS => ?_)
              refine wpAnyT_takeD (i := 0) (v := ?_) rfl (by kernel_rfl) (by kernel_rfl) (by kernel_rfl) (by kernel_rfl) (fun _ _ _ h => h) (Or.inl ⟨by kernel_rfl, ?_⟩) hS ?_
              rotate_left 1
              · (intro w' hSw; (try dsimp only at hSw); go_simp; try (with_reducible rfl))
              try simp only [Act.put, List.setIfInBounds_toArray, List.set_cons_zero, List.set_cons_succ]
              refine wpAnyT_takeD (i := 1) (v := ?_) rfl (by kernel_rfl) (by kernel_rfl) (by kernel_rfl) (by kernel_rfl) (fun _ _ _ h => h) (Or.inl ⟨by kernel_rfl, ?_⟩) hS ?_
              rotate_left 1
              · (intro w' hSw; (try dsimp only at hSw); go_simp; try (with_reducible rfl))
              try simp only [Act.put, List.setIfInBounds_toArray, List.set_cons_zero, List.set_cons_succ]
              refine wpAnyT_takeD (i := 2) (v := ?_) rfl (by kernel_rfl) (by kernel_rfl) (by kernel_rfl) (by kernel_rfl) (fun _ _ _ h => h) (Or.inl ⟨by kernel_rfl, ?_⟩) hS ?_
              rotate_left 1
              · (intro w' hSw; (try dsimp only at hSw); go_simp; try (with_reducible rfl))
              try simp only [Act.put, List.setIfInBounds_toArray, List.set_cons_zero, List.set_cons_succ]
              refine wpAnyT_takeD (i := 3) (v := ?_) rfl (by kernel_rfl) (by kernel_rfl) (by kernel_rfl) (by kernel_rfl) (fun _ _ _ h => h) (Or.inl ⟨by kernel_rfl, ?_⟩) hS ?_
              rotate_left 1
              · (intro w' hSw; (try dsimp only at hSw); go_simp; try (with_reducible rfl))
              try simp only [Act.put, List.setIfInBounds_toArray, List.set_cons_zero, List.set_cons_succ]
              refine wpAnyT_takeD (i := 4) (v := ?_) rfl (by kernel_rfl) (by kernel_rfl) (by kernel_rfl) (by kernel_rfl) (fun _ _ _ h => h) (Or.inl ⟨by kernel_rfl, ?_⟩) hS ?_
              rotate_left 1
              · (intro w' hSw; (try dsimp only at hSw); go_simp; try (with_reducible rfl))
              try simp only [Act.put, List.setIfInBounds_toArray, List.set_cons_zero, List.set_cons_succ]
              refine wpAnyT_takeD (i := 5) (v := ?_) rfl (by kernel_rfl) (by kernel_rfl) (by kernel_rfl) (by kernel_rfl) (fun _ _ _ h => h) (Or.inl ⟨by kernel_rfl, ?_⟩) hS ?_
              rotate_left 1
              · (intro w' hSw; (try dsimp only at hSw); go_simp; try (with_reducible rfl))
              try simp only [Act.put, List.setIfInBounds_toArray, List.set_cons_zero, List.set_cons_succ]
              refine wpAnyT_takeD (i := 6) (v := ?_) rfl (by kernel_rfl) (by kernel_rfl) (by kernel_rfl) (by kernel_rfl) (fun _ _ _ h => h) (Or.inl ⟨by kernel_rfl, ?_⟩) hS ?_
              rotate_left 1
              · (intro w' hSw; (try dsimp only at hSw); go_simp; try (with_reducible rfl))
              try simp only [Act.put, List.setIfInBounds_toArray, List.set_cons_zero, List.set_cons_succ]
              refine wpAnyT_takeD (i := 7) (v := ?_) rfl (by kernel_rfl) (by kernel_rfl) (by kernel_rfl) (by kernel_rfl) (fun _ _ _ h => h) (Or.inl ⟨by kernel_rfl, ?_⟩) hS ?_
              rotate_left 1
              · (intro w' hSw; (try dsimp only at hSw); go_simp; try (with_reducible rfl))
              try simp only [Act.put, List.setIfInBounds_toArray, List.set_cons_zero, List.set_cons_succ]
              refine wpAnyT_takeD (i := 8) (v := ?_) rfl (by kernel_rfl) (by kernel_rfl) (by kernel_rfl) (by kernel_rfl) (fun _ _ _ h => h) (Or.inl ⟨by kernel_rfl, ?_⟩) hS ?_
              rotate_left 1
              · (intro w' hSw; (try dsimp only at hSw); go_simp; try (with_reducible rfl))
              try simp only [Act.put, List.setIfInBounds_toArray, List.set_cons_zero, List.set_cons_succ]
              refine wpAnyT_takeD (i := 9) (v := ?_) rfl (by kernel_rfl) (by kernel_rfl) (by kernel_rfl) (by kernel_rfl) (fun _ _ _ h => h) (Or.inl ⟨by kernel_rfl, ?_⟩) hS ?_
              rotate_left 1
              · (intro w' hSw; (try dsimp only at hSw); go_simp; try (with_reducible rfl))
              try simp only [Act.put, List.setIfInBounds_toArray, List.set_cons_zero, List.set_cons_succ]
              refine wpAnyT_takeD (i := 10) (v := ?_) rfl (by kernel_rfl) (by kernel_rfl) (by kernel_rfl) (by kernel_rfl) (fun _ _ _ h => h) (Or.inl ⟨by kernel_rfl, ?_⟩) hS ?_
              rotate_left 1
              · (intro w' hSw; (try dsimp only at hSw); go_simp; try (with_reducible rfl))
              try simp only [Act.put, List.setIfInBounds_toArray, List.set_cons_zero, List.set_cons_succ]
              refine wpAnyT_takeD (i := 11) (v := ?_) rfl (by kernel_rfl) (by kernel_rfl) (by kernel_rfl) (by kernel_rfl) (fun _ _ _ h => h) (Or.inl ⟨by kernel_rfl, ?_⟩) hS ?_
              rotate_left 1
              · (intro w' hSw; (try dsimp only at hSw); go_simp; try (with_reducible rfl))
              try simp only [Act.put, List.setIfInBounds_toArray, List.set_cons_zero, List.set_cons_succ]
              refine wpAnyT_takeD (i := 12) (v := ?_) rfl (by kernel_rfl) (by kernel_rfl) (by kernel_rfl) (by kernel_rfl) (fun _ _ _ h => h) (Or.inl ⟨by kernel_rfl, ?_⟩) hS ?_
              rotate_left 1
              · (intro w' hSw; (try dsimp only at hSw); go_simp; try (with_reducible rfl))
              try simp only [Act.put, List.setIfInBounds_toArray, List.set_cons_zero, List.set_cons_succ]
              refine wpAnyT_takeD (i := 13) (v := ?_) rfl (by kernel_rfl) (by kernel_rfl) (by kernel_rfl) (by kernel_rfl) (fun _ _ _ h => h) (Or.inl ⟨by kernel_rfl, ?_⟩) hS ?_
              rotate_left 1
              · (intro w' hSw; (try dsimp only at hSw); go_simp; try (with_reducible rfl))
              try simp only [Act.put, List.setIfInBounds_toArray, List.set_cons_zero, List.set_cons_succ]
              refine wpAnyT_takeD (i := 14) (v := ?_) rfl (by kernel_rfl) (by kernel_rfl) (by kernel_rfl) (by kernel_rfl) (fun _ _ _ h => h) (Or.inl ⟨by kernel_rfl, ?_⟩) hS ?_
              rotate_left 1
              · (intro w' hSw; (try dsimp only at hSw); go_simp; try (with_reducible rfl))
              try simp only [Act.put, List.setIfInBounds_toArray, List.set_cons_zero, List.set_cons_succ]
              refine wpAnyT_takeD (i := 15) (v := ?_) rfl (by kernel_rfl) (by kernel_rfl) (by kernel_rfl) (by kernel_rfl) (fun _ _ _ h => h) (Or.inl ⟨by kernel_rfl, ?_⟩) hS ?_
              rotate_left 1
              · (intro w' hSw; (try dsimp only at hSw); go_simp; try (with_reducible rfl))
              try simp only [Act.put, List.setIfInBounds_toArray, List.set_cons_zero, List.set_cons_succ]
              refine wpAnyT_oneD (i := 16) rfl (by kernel_rfl) (by decide) (fun K hK => ?_)
              go_simp
              refine hK.out _ _ (by go_keep) (fun hS => ?_)
              clear hK
              refine wpAnyT_oneD (i := 17) rfl (by kernel_rfl) (by decide) (fun K hK => ?_)
              refine step_push rfl (.tmp 82) (.tmp 91) 34 rfl w2.heap.size 42 2 16 sliceEd _ _ _ (ho.alloc _) rfl w6.heap.size #[.int .i64 (j : Int), .int .i64 act] rfl hnw rfl (by simp [Value.oneCell']) (by omega) (by omega) (by simp; omega) ?_
              intro u' w7 hown3 ht3 hat3 hne3
              obtain ⟨g', cap', rfl, _⟩ := own_form hown3 (by omega)
              obtain ⟨r1, r2, r4, r5⟩ := BRows.grow (ys := y ++ [⟨(j : Int), act⟩]) ⟨⟨vs, t2, t5⟩, tB⟩ t2 t5 rfl HU.out ho (by rw [ncells_append]; simpa [ncells] using hown3) (Tch.undrew ht3) hat3
              have r5' := r5
              have r6 := (r4 w.heap.size (by omega) (fun g hg e => by have := hune g hg; omega) 1).trans k1
              have r7 := (r4 b (by omega) (fun g hg e => by have := hune g hg; omega) (o + a)).trans k3
              have r8 := (r4 bb (by omega) (fun g hg e => by have := hune g hg; omega) (oo + m * 2)).trans k4
              have r9 := (r4 bb (by omega) (fun g hg e => by have := hune g hg; omega) (oo + m * 2 + 1)).trans k5
              have rB := (r4 gi hgl6 (fun g hg e => own_ne_blk ho tB (by decide) (e ▸ hg)) 1).trans x1
              refine hK.out _ _ ⟨rB, r6, r7, r8, r9, r1⟩ (fun hS => ?_)
              clear hK r4 r5'
              refine wpAnyT_takeD (i := 18) (v := ?_) rfl (by kernel_rfl) (by kernel_rfl) (by kernel_rfl) (by kernel_rfl) (fun _ _ _ h => h) (Or.inl ⟨by kernel_rfl, ?_⟩) hS ?_
              rotate_left 1
              · (intro w' hSw; (try dsimp only at hSw); go_simp; try (with_reducible rfl))
              try simp only [Act.put, List.setIfInBounds_toArray, List.set_cons_zero, List.set_cons_succ]
              refine wpAnyT_endD rfl (by kernel_rfl) (by kernel_rfl) (fun K hK => ?_)
              go_simp
              refine hK.out _ _ ?_
              clear hK
              go_wp2
              go_roundw
              case rel => exact ⟨m + 1, by omega, by go_num, by rw [HSN.out, if_pos HKE.out]; rw [List.set_set] at r5; exact r5⟩
              case measure => simp [intOf]; omega
        · have hml : m = x.length := by omega
          have hT1 := hT
          rw [List.take_of_length_le (by omega), ← HSU.out] at hT1
          have HT1 := Lib.hid hT1
          clear hT hT1 hml f0 f2
          go_wp2
          go_roundw
          case rel => exact ⟨a + 1, by omega, by go_num, HT1.out⟩
          case measure => simp [intOf]; omega
    · have hae : a = ne := by omega
      have hfin : withinR G.edges z a = withinE G.edges z := by rw [hae, H2.out, withinR_full]
      rw [hfin] at hT
      have HTF := Lib.hid hT
      clear hT hfin hae e1
      obtain ⟨w3, rfl⟩ : ∃ W, W = wp := ⟨_, rfl⟩
      have hz3 := hbel.size
      have hwl : (withinE G.edges z).length = ne := by rw [withinE_len, ← H2.out]
      have hI : GrRd w3 w3.heap.size none 0 0 (some ⟨r, 0, none⟩) ne ne none 0 0 ⟨[], withinE G.edges z, []⟩ := by
        obtain ⟨⟨vs, h2, h5⟩, _⟩ := HTF.out
        obtain ⟨A3, c3, e3, s3⟩ := h2.sl2
        rw [List.length_map, hwl] at e3 s3
        cases e3
        exact ⟨Sl.none_ _ _ _, s3, Sl.none_ _ _ _⟩
      obtain ⟨⟨x0, x1, x2⟩, _, hgl3⟩ := blk3 HTF.out.2
      have hrl3 : r < w3.heap.size := by
        obtain ⟨⟨vs, h2, h5⟩, _⟩ := HTF.out
        exact (h2.main.lt r rfl).2
      have HI := Lib.hid hI
      have HX := Lib.hid (And.intro x0 (And.intro x1 x2))
      have HSZ := Lib.hid ((hsz.below hbel (Nat.le_refl _)).up hz3)
      have HSE := Lib.hid (((HE1.out w2 hbw2).below hbel (Nat.le_refl _)).up hz3)
      have HWL := Lib.hid hwl
      have HBW3 := Lib.hid (hbb.trans ((hbw2.trans (hbel.mono (by omega))).mono (by omega)))
      have hrw : ∀ l ∈ withinE G.edges z, l.length ≤ 30 := fun l hl => by
        obtain ⟨i, hi, rfl⟩ := List.mem_map.1 hl
        split
        · refine Nat.le_trans (List.length_filter_le _ _) ?_
          simp only [List.getD, List.getElem?_eq_getElem (List.mem_range.1 hi), Option.getD_some]
          exact HR.out _ (List.getElem_mem _)
        · simp
      have HRW := Lib.hid hrw
      clear hI x0 x1 x2 hwl hrw
      have hna : ¬ a < ne := hlt
      go_wp2
      go_loopw [10] (fun i wr => ∃ t : Nat, t ≤ ne ∧ i = .int .i64 t ∧ Below w3.heap.size w3 wr) (fun i _ => ne - (intOf i).toNat)
      case atStart => exact ⟨0, by omega, rfl, Below.refl _ _⟩
      case round =>
        obtain ⟨t, ht, rfl, hbr⟩ := hrel
        have hzr := hbr.size
        by_cases hlt : t < ne
        · have htz : t < z.length := by rw [← HZN.out]; exact hlt
          obtain ⟨zb, zo, hze, hzb0, hzc⟩ := (HSZ.out.rd.below hbr (Nat.le_refl _)).at_ (bcells'_at htz)
          subst hze
          have t0 : (0 : Int) ≤ (t : Int) := by omega
          have t1 : (t : Int) < (ne : Int) := by omega
          cases hzt : z.getD t false
          · rw [hzt] at hzc
            have HBR := Lib.hid hbr
            clear hzt hbr
            go_wp2
            go_roundw
            case rel => exact ⟨t + 1, by omega, by go_num, HBR.out⟩
            case measure => simp [intOf]; omega
          · rw [hzt] at hzc
            obtain ⟨hne, hmet⟩ := stays_met HZ.out hzt
            have htw : t < (withinE G.edges z).length := by rw [HWL.out]; exact hlt
            have hgd : (withinE G.edges z).getD t [] = (withinE G.edges z)[t] := by simp [List.getD, htw]
            rw [hgd] at hne hmet
            rw [← HZN.out] at hmet
            have hx30 := HRW.out _ (List.getElem_mem htw)
            obtain ⟨b4, o4, A4, n4, c4, hA4, hb40, hc40, hrow4⟩ := HI.out.he.at_ (ed_take htw)
            cases hA4
            have hn4 : n4 = ((withinE G.edges z)[t]).length := by have := hrow4.len; rw [ncells_len] at this; omega
            generalize (withinE G.edges z)[t] = x at *
            subst hn4
            rw [Nat.zero_add] at hc40
            obtain ⟨wS, rfl⟩ : ∃ W, W = wr := ⟨_, rfl⟩
            have HBR := Lib.hid hbr
            have HMET := Lib.hid hmet
            have hxl : 0 < x.length := List.length_pos_iff.2 hne
            have hc4 := (hbr.cell (p := ⟨r, t, none⟩) hrl3).trans hc40
            have g1 := (hbr.cell (p := ⟨gi, 1, none⟩) hgl3).trans HX.out.2.1
            clear hzt hgd hmet hne hbr
            go_wp2
            clear g1 hc4 hzc
            go_loopw [11, 12] (fun v i wr => ∃ m : Nat, m ≤ x.length ∧ i = .int .i64 m ∧ wr.ownsRow wS.heap.size 3 1 v m (icells ((tgts x).take m)) ∧ Below wS.heap.size wS wr) (fun _ i _ => x.length - (intOf i).toNat)
            case atStart => exact ⟨0, by omega, rfl, ⟨by simp [icells], .inl ⟨rfl, rfl⟩⟩, Below.refl _ _⟩
            case round =>
              obtain ⟨m, hm, rfl, hO, hbq⟩ := hrel
              have hbq3 : Below w3.heap.size w3 wr := HBR.out.trans (hbq.mono hzr)
              have hzq := hbq.size
              have hc4 := (hbq3.cell (p := ⟨r, t, none⟩) hrl3).trans hc40
              have g0 := (hbq3.cell (p := ⟨gi, 0, none⟩) hgl3).trans HX.out.1
              have g1 := (hbq3.cell (p := ⟨gi, 1, none⟩) hgl3).trans HX.out.2.1
              have g2 := (hbq3.cell (p := ⟨gi, 2, none⟩) hgl3).trans HX.out.2.2
              by_cases hltm : m < x.length
              · clear g0 g2
                obtain ⟨bb, oo, rfl, hbbb, hd0, hd1⟩ := rd_nd (hrow4.rd.below hbq3 (Nat.le_refl _)) hltm
                have hts : (tgts x).take (m + 1) = (tgts x).take m ++ [x[m].op] := by
                  have := take_snoc (tgts x) m (by simpa [tgts] using hltm)
                  rw [this]; simp [tgts]
                generalize x[m] = e at *
                obtain ⟨op, act⟩ := e
                dsimp only at *
                have HTS := Lib.hid hts
                have m0 : (0 : Int) ≤ (m : Int) := by omega
                have m1 : (m : Int) < (x.length : Int) := by omega
                have HBQ := Lib.hid hbq
                clear hts hbq hbq3
                go_wp2_with (at_builtin; refine wpList_push rfl (.tmp 115) (.tmp 125) 22 rfl wS.heap.size 3 1 8 sliceInt _ _ _ (hO.alloc _) rfl wr.heap.size #[.int .i64 op] rfl (heap_alloc_new wr _) rfl (by simp [Value.oneCell']) (by omega) (by omega) (by simp; omega) ?_; intro v5 w5 hO5 ht5 _ _)
                have HB5 : Hid (Below wS.heap.size wS w5) := Lib.hid ((HBQ.out.trans (((Below.refl _ _).alloc (Nat.le_refl _) _).mono hzq)).trans (ht5.below (by simp; omega) (fun k hk e => by have := (hO.lt k e).1; omega)))
                have HO5 : Hid (w5.ownsRow wS.heap.size 3 1 v5 (m + 1) (icells ((tgts x).take (m + 1)))) := Lib.hid (by rw [HTS.out]; simpa [icells] using hO5)
                clear g1 hc4 hd0 hd1 hO ht5 hO5
                go_wp2
                go_roundw
                case rel => exact ⟨m + 1, by omega, by go_num, HO5.out, HB5.out⟩
                case measure => simp [intOf]; omega
              · have hmx : m = x.length := by omega
                have hltx : (tgts x).length = x.length := by simp [tgts]
                rw [List.take_of_length_le (by omega)] at hO
                obtain ⟨Af, cf, rfl, hsf⟩ := own_sl hO
                have HMX := Lib.hid hmx
                have hmp : ((m : Int) == 0) = false := by simp; omega
                have HIq := Lib.hid (HI.out.below hbq3 (Nat.le_refl _))
                have HSF := Lib.hid hsf
                have HLT := Lib.hid hltx
                have HBQ := Lib.hid hbq3
                have hz3q := hbq3.size
                obtain ⟨wq, rfl⟩ : ∃ W, W = wr := ⟨_, rfl⟩
                clear hO hsf hltx hmx hbq hbq3 hc40
                go_wp2_with fail
                refine (reachR_any none (some ⟨r, 0, none⟩) none 0 0 ne ne 0 0 ⟨[], withinE G.edges z, []⟩ (tgts x) Af m cf wq wq.heap.size (HIq.out.up hz3q) HSF.out (by rw [HLT.out]; exact HMX.out) (Nat.le_refl _) (by omega) (by omega) (fun l hl => Nat.le_trans (HRW.out l hl) (by omega))).mono ?_
                rintro e w5 ⟨vr, rfl, hOr, hb5, _⟩
                obtain ⟨Ar, cr, rfl, hsr⟩ := own_sl hOr
                have hrl : (reachG ne (withinE G.edges z) (tgts x)).length = ne := reachG_len _ _ _
                have HRLN := Lib.hid hrl
                obtain ⟨rc, hrc⟩ : ∃ l, l = reachG ne (withinE G.edges z) (tgts x) := ⟨_, rfl⟩
                dsimp only at hsr
                rw [← hrc] at hrl hsr HMET
                have hb35 : Below w3.heap.size w3 w5 := HBQ.out.trans (hb5.mono hz3q)
                have HB5 := Lib.hid hb35
                have hz5 := hb35.size
                have HRL := Lib.hid hrl
                have HSR := Lib.hid hsr
                have HSE5 := Lib.hid ((HSE.out.below hb35 (Nat.le_refl _)).up hz5)
                have HSZ5 := Lib.hid ((HSZ.out.below hb35 (Nat.le_refl _)).up hz5)
                clear g0 g1 g2 hc4 hOr hb5 hrc hrl hsr hb35 HRLN
                go_wp2
                go_loopw [14] (fun i wr => ∃ q : Nat, q ≤ ns ∧ i = .int .i64 q ∧ wr = w5) (fun i _ => ns - (intOf i).toNat)
                case atStart => exact ⟨0, by omega, rfl, rfl⟩
                case round =>
                  obtain ⟨q, hq, rfl, rfl⟩ := hrel
                  by_cases hlq : q < ns
                  · have hqS : q < sets.length := by rw [← HSN.out]; exact hlq
                    obtain ⟨sb, so, A', n', c', hAe, hsbb, hsc, hrow⟩ := HSE5.out.at_ (j := q) (ys := bcells sets[q]) (by simp [hqS])
                    subst hAe
                    have hn' : n' = sets[q].length := by have := hrow.len; simpa [bcells] using this.symm
                    obtain ⟨kk, hk1, hk2, hk3, hk4⟩ := HMET.out _ (List.getElem_mem hqS)
                    generalize sets[q] = s at *
                    have HN' := Lib.hid hn'
                    have HK3 := Lib.hid hk3
                    have HK4 := Lib.hid hk4
                    have hk2' : kk < n' := by omega
                    have q0' : (0 : Int) ≤ (q : Int) := by omega
                    have q1' : (q : Int) < (ns : Int) := by omega
                    clear hn' hk3 hk4 hk2
                    go_wp2
                    go_loopw [15, 16] (fun f i wv => ∃ k : Nat, k ≤ ne ∧ k ≤ n' ∧ i = .int .i64 k ∧ f = .bool (metR rc s k) ∧ wv = wr) (fun _ i _ => ne - (intOf i).toNat)
                    case atStart => exact ⟨0, by omega, by omega, rfl, rfl, rfl⟩
                    case round =>
                      obtain ⟨k, hk, hkn, rfl, rfl, rfl⟩ := hrel
                      by_cases hlk : k < ne
                      · by_cases hln : k < n'
                        · obtain ⟨rb, ro, hre, _, hrc⟩ := HSR.out.rd.at_ (bcells'_at (show k < rc.length by rw [HRL.out]; exact hlk))
                          obtain ⟨b6, o6, hse, _, hs6⟩ := hrow.rd.at_ (bcells'_at (show k < s.length by rw [← HN'.out]; exact hln))
                          subst hre hse
                          have hms := metR_succ rc s k
                          generalize metR rc s k = acc at *
                          generalize rc.getD k false = b1' at *
                          generalize s.getD k false = b2' at *
                          have HMS := Lib.hid hms
                          have k0 : (0 : Int) ≤ (k : Int) := by omega
                          have k1 : (k : Int) < (ne : Int) := by omega
                          have k2 : (k : Int) < (n' : Int) := by omega
                          clear hms
                          cases acc <;> cases b1' <;> cases b2'
                          all_goals
                            go_wp2
                            go_roundw
                            case rel => exact ⟨k + 1, by omega, by omega, by go_num, by rw [HMS.out]; rfl, by trivial⟩
                            case measure => simp [intOf]; omega
                        · have HM : Hid (metR rc s k = true) := Lib.hid (metR_of (show kk < k by omega) HK3.out HK4.out)
                          rw [HM.out]
                          go_wp2
                          go_roundw
                          case rel => exact ⟨q + 1, by omega, by go_num, by trivial⟩
                          case measure => simp [intOf]; omega
                      · have HM : Hid (metR rc s k = true) := Lib.hid (metR_of (show kk < k by omega) HK3.out HK4.out)
                        rw [HM.out]
                        go_wp2
                        go_roundw
                        case rel => exact ⟨q + 1, by omega, by go_num, by trivial⟩
                        case measure => simp [intOf]; omega
                  · go_wp2
                    go_roundw
                    case rel => exact ⟨t + 1, by omega, by go_num, HB5.out⟩
                    case measure => simp [intOf]; omega
        · go_wp2_with fail
          refine (awakeF_any _).mono ?_
          rintro e w11 ⟨rfl, hb11⟩
          have HB11 := Lib.hid (HBW3.out.trans ((hbr.trans (hb11.mono hzr)).mono HBW3.out.size))
          go_wp2
          go_ret
          exact ⟨rfl, HB11.out⟩
end
end Go.Proofs.Ytfpncpjdmgfkbaa
