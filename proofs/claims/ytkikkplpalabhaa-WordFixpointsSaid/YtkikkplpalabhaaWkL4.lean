/- The law WordFixpoints of layer 27. -/
import Derived.Test.YtkikkplpalabhaaWkF
import Derived.Test.YtkikkplpalabhaaR23b
import Derived.Test.YtkikkplpalabhaaWkL2
namespace Go.Proofs.Ytkikkplpalabhaa
open Go.RowKit

/-- Two rows of bools under way, apart from one another. -/
structure TwB (w wr : World) (ga gb n : Nat) (la lb : List Bool) : Prop where
  a : wr.ownsRow w.heap.size 4 1 (.slice (some ⟨ga, 0, none⟩) n n) n (bcells la)
  b : wr.ownsRow w.heap.size 4 1 (.slice (some ⟨gb, 0, none⟩) n n) n (bcells lb)
  ne : ga ≠ gb
  bel : Below w.heap.size w wr
section
variable {w wr w2 : World} {ga gb n : Nat} {la lb : List Bool}
theorem TwB.below (h : TwB w wr ga gb n la lb) (hb : Below wr.heap.size wr w2) : TwB w w2 ga gb n la lb := ⟨own_below h.a hb, own_below h.b hb, h.ne, h.bel.trans (hb.mono h.bel.size)⟩
theorem TwB.drew (h : TwB w wr ga gb n la lb) : TwB w wr.drew ga gb n la lb := h.below (Below.refl _ _).drew
theorem TwB.cell (h : TwB w wr ga gb n la lb) {k : Nat} (hk : k < n) : (wr.cell? ⟨ga, k, none⟩ = some (.bool (la.getD k false)) ∧ wr.frozen? ⟨ga, k, none⟩ = false) ∧ (wr.cell? ⟨gb, k, none⟩ = some (.bool (lb.getD k false)) ∧ wr.frozen? ⟨gb, k, none⟩ = false) := by
  have hla : la.length = n := by have := h.a.1; rw [bcells_len] at this; omega
  have hlb : lb.length = n := by have := h.b.1; rw [bcells_len] at this; omega
  refine ⟨⟨?_, h.a.frozenAt k⟩, ⟨?_, h.b.frozenAt k⟩⟩
  · rw [h.a.cellAt k (by omega)]; exact bcells_at (by omega)
  · rw [h.b.cellAt k (by omega)]; exact bcells_at (by omega)
theorem TwB.putA (h : TwB w wr ga gb n la lb) (k : Nat) (v : Bool) : TwB w (wr.setCell ⟨ga, k, none⟩ (.bool v)) ga gb n (la.set k v) lb := by
  refine ⟨?_, ownsRow_setCell_other (a := ⟨ga, k, none⟩) h.b (fun e => h.ne (by simp [Value.ownBlock] at e; exact e.symm)) _, h.ne, ?_⟩
  · have := (h.a.stored k (.bool v)).1
    rw [show bcells (la.set k v) = (bcells la).set k (.bool v) by simp [bcells, List.map_set]]; exact this
  · exact h.bel.setCell (p := ⟨ga, k, none⟩) (h.a.lt ga rfl).1 _
theorem TwB.putB (h : TwB w wr ga gb n la lb) (k : Nat) (v : Bool) : TwB w (wr.setCell ⟨gb, k, none⟩ (.bool v)) ga gb n la (lb.set k v) := by
  refine ⟨ownsRow_setCell_other (a := ⟨gb, k, none⟩) h.a (fun e => h.ne (by simp [Value.ownBlock] at e; exact e)) _, ?_, h.ne, ?_⟩
  · have := (h.b.stored k (.bool v)).1
    rw [show bcells (lb.set k v) = (bcells lb).set k (.bool v) by simp [bcells, List.map_set]]; exact this
  · exact h.bel.setCell (p := ⟨gb, k, none⟩) (h.b.lt gb rfl).1 _
end
theorem set_past {w : World} {a b : Addr} (h : b.block ≠ a.block) (v : Value) : (w.setCell a v).cell? b = w.cell? b :=
  World.cell?_setCell_other _ _ _ _ (fun e => h (congrArg Addr.block e).symm)
/-- Both rows are made. -/
def MCut (w : World) (n : Nat) (pa pb : Value) (wF : World) : Prop :=
  ∃ ga gb : Nat, pa = .slice (some ⟨ga, 0, none⟩) n n ∧ pb = .slice (some ⟨gb, 0, none⟩) n n ∧ TwB w wF ga gb n (List.replicate n false) (List.replicate n false)
theorem two_made (w : World) (n : Nat) (h : n ≤ 1000000) : TwB w (((w.alloc (.cells (madeCells #[.bool false] n) 4)).drew).alloc (.cells (madeCells #[.bool false] n) 4)) w.heap.size (w.heap.size + 1) n (List.replicate n false) (List.replicate n false) ∧ TwB w (((w.alloc (.cells (madeCells #[.bool false] n) 4)).drew).alloc (.cells (madeCells #[.bool false] n) 4)) (w.heap.size + 1) w.heap.size n (List.replicate n false) (List.replicate n false) := by
  have h1 := (bow_made w n h)
  obtain ⟨W1, hW1⟩ : ∃ W, W = (w.alloc (.cells (madeCells #[.bool false] n) 4)).drew := ⟨_, rfl⟩
  have hd : Bow w W1 w.heap.size n (List.replicate n false) := by rw [hW1]; exact h1.below (Below.refl _ _).drew
  have hs1 : W1.heap.size = w.heap.size + 1 := by rw [hW1]; show (w.alloc _).heap.size = _; simp
  have h2 := bow_made W1 n h
  rw [← hW1]
  have hd2 := hd.below h2.bel
  have h2' := own_base h2.own hd.bel.size
  rw [hs1] at h2'
  exact ⟨⟨hd2.own, h2', by omega, hd2.bel⟩, ⟨h2', hd2.own, by omega, hd2.bel⟩⟩
def FA (op r : Int) (a : List Bool) (k : Nat) : Bool := decide (r < 0) || (a.getD k false != (decide (op = 10) || decide (op = 12)))
def FB (op r : Int) (a b : List Bool) (k : Nat) : Bool := ((if r < 0 then a else b).getD k false != (decide (op = 10) || decide (op = 12)))
theorem fa_nat (op : Int) (n : Nat) (a : List Bool) (k : Nat) : FA op (n : Int) a k = (a.getD k false != (decide (op = 10) || decide (op = 12))) := by
  unfold FA
  rw [show decide ((n : Int) < 0) = false by rw [decide_eq_false_iff_not]; omega]; rfl
theorem fb_nat (op : Int) (n : Nat) (a b : List Bool) (k : Nat) : FB op (n : Int) a b k = (b.getD k false != (decide (op = 10) || decide (op = 12))) := by
  unfold FB
  rw [if_neg (by omega)]
theorem fa_neg (op : Int) (a : List Bool) (k : Nat) : FA op (-1) a k = true := rfl
theorem fb_neg (op : Int) (a b : List Bool) (k : Nat) : FB op (-1) a b k = (a.getD k false != (decide (op = 10) || decide (op = 12))) := rfl
set_option maxHeartbeats 40000000 in
set_option maxRecDepth 100000 in
theorem WordFixpoints_any (A A1 A2 : Option Addr) (n c n1 c1 n2 c2 : Nat) (f : List Nd) (st lo : List Int) (w : World) (hnf : n = f.length) (h1 : n1 = st.length) (h2 : n2 = lo.length) (hf : Sl w w.heap.size 2 A n c (ncells f)) (hs : Sl w w.heap.size 1 A1 n1 c1 (ucells st)) (ht : Sl w w.heap.size 1 A2 n2 c2 (ucells lo))
    (hl : n ≤ 8796093022208) (hl1 : n1 ≤ 17592186044416) (hl2 : n2 ≤ 17592186044416) :
    Calls Try.prog 10 #[.slice A n c, .agg #[.slice A1 n1 c1, .slice A2 n2 c2]] w (Tru w true) := by
  obtain ⟨hb0, x0, x1⟩ := wbox w A1 A2 n1 c1 n2 c2
  obtain ⟨W0, hW0⟩ : ∃ W, W = w.alloc (.cells #[.slice A1 n1 c1, .slice A2 n2 c2] 34) := ⟨_, rfl⟩
  have hz0 : w.heap.size < W0.heap.size := by rw [hW0]; simp
  rw [← hW0] at hb0 x0 x1
  have HW0 := Lib.hid hW0
  have HH := Lib.hid (heavyW_any A A1 A2 n c n1 c1 n2 c2 W0 (by omega) (by omega) (by omega))
  have hW := Lib.hid (⟨hs.below hb0 (Nat.le_refl _), ht.below hb0 (Nat.le_refl _), h1, h2⟩ : WRd W0 w.heap.size A1 A2 n1 c1 n2 c2 st lo)
  have hF := Lib.hid (hf.below hb0 (Nat.le_refl _))
  have HL1 := Lib.hid h1
  have HL2 := Lib.hid h2
  clear hW0 hs ht h1 h2 hf
  by_cases hg : 60 < n ∨ 30 < n1 ∨ 30 < n2
  · have e : (decide (60 < n) || decide (30 < n1) || decide (30 < n2)) = true := by simp; omega
    rw [e] at HH
    clear e hg hnf
    go_enter Try.func10, Try.ntmps10
    go_wp2_with fail
    rw [← HW0.out]
    refine Calls.mono HH.out ?_
    rintro e w1 ⟨rfl, hb1⟩
    go_wp2_with fail
    refine (wawake_any _).mono ?_
    rintro e w2 ⟨rfl, hb2⟩
    go_wp2
    go_ret
    exact ⟨rfl, hb0.trans ((hb1.trans (hb2.mono hb1.size)).mono hb0.size)⟩
  have e : (decide (60 < n) || decide (30 < n1) || decide (30 < n2)) = false := by simp; omega
  rw [e] at HH
  have hn0 : f.length ≤ 60 := by omega
  have hn1 : n1 ≤ 30 := by omega
  have hn2 : n2 ≤ 30 := by omega
  clear e hg hl hl1 hl2
  subst hnf
  go_enter Try.func10, Try.ntmps10
  go_wp2_with fail
  rw [← HW0.out]
  refine Calls.mono HH.out ?_
  rintro e w0 ⟨rfl, hb1⟩
  have hWW := hW.out.below hb1 hb0.size
  have hFF := hF.out.below hb1 hb0.size
  have g0 := (hb1.cell (p := ⟨w.heap.size, 0, none⟩) hz0).trans x0
  have g1 := (hb1.cell (p := ⟨w.heap.size, 1, none⟩) hz0).trans x1
  have hzg : w.heap.size < w0.heap.size := Nat.lt_of_lt_of_le hz0 hb1.size
  have hb2 := hb0.trans (hb1.mono hb0.size)
  have hTr := truthP_any A A1 A2 c n1 c1 n2 c2 f st lo w0 (hFF.up hb2.size) (hWW.up hb2.size) (by omega) (by omega)
  have HF := Lib.hid hFF
  have HB1 := Lib.hid hb2
  clear hW hF HH HW0 x0 x1 hb0 hb1 hz0 hWW hFF hb2
  go_wp2_with fail
  refine Calls.mono hTr ?_
  rintro e wF ⟨v1, rfl, hG⟩
  have hbF : Below w0.heap.size w0 wF := hG.choose_spec.2.2
  have q0 := (hbF.cell (p := ⟨w.heap.size, 0, none⟩) hzg).trans g0
  have q1 := (hbF.cell (p := ⟨w.heap.size, 1, none⟩) hzg).trans g1
  have hqF : w.heap.size < wF.heap.size := Nat.lt_of_lt_of_le hzg hbF.size
  have HB2 := Lib.hid (HB1.out.trans (hbF.mono HB1.out.size))
  have HFF := Lib.hid (HF.out.below hbF HB1.out.size)
  clear g0 g1 hTr hzg HF
  by_cases hgd : lo ≠ [] ∧ wrong f = 0
  · have hR : truthW (wbit st lo) f st lo = rowsF (wbit st lo) (n1 + n2) n1 f := by rw [truthW, if_pos hgd, ← HL1.out, ← HL2.out]
    have hpos : 0 < f.length := by
      rcases f with _ | ⟨x, r⟩
      · simp [wrong] at hgd
      · simp
    have hn2p : 0 < n2 := by rw [HL2.out]; exact List.length_pos_iff.2 hgd.1
    rw [hR] at hG
    have hlen : (rowsF (wbit st lo) (n1 + n2) n1 f).length = f.length := rowsF_len f
    obtain ⟨g, capg, rfl⟩ := hG.form (by rw [hlen]; exact hpos)
    obtain ⟨NR, HNR⟩ : ∃ N, Hid (N = (rowsF (wbit st lo) (n1 + n2) n1 f).length) := ⟨_, Lib.hid rfl⟩
    have hNR : NR = f.length := HNR.out.trans hlen
    rw [← HNR.out] at hG ⊢
    have hRL : ∀ (j : Nat) (r : List Bool), (rowsF (wbit st lo) (n1 + n2) n1 f)[j]? = some r → r.length = n1 + n2 := by
      intro j r hj
      exact (tfold_ok (bits := wbit st lo) (n := n1 + n2) (lp := n1) hgd.2 f.length (Nat.le_refl _)).rows r (by rw [tfold_end]; exact List.mem_of_getElem? hj)
    have HRL := Lib.hid hRL
    have HAT := Lib.hid (fun (k : Nat) (hk : k < f.length) => rowsF_at (bits := wbit st lo) (n := n1 + n2) (lp := n1) hgd.2 hk)
    have HFX := Lib.hid (fun (k : Nat) (hk : k < f.length) => fix_at hgd.2 hk)
    have hlp : n1 < n1 + n2 := by omega
    have hNb : n1 + n2 ≤ 60 := by omega
    have hmk := run_make_row' (P := Try.prog) 50 4 (.bool false) 1 Try.underlying50 infoBool rfl .i64 .i64 (n1 + n2) (by omega) (by omega)
    have HLS := Lib.hid (fun (Aa Ab : Option Addr) (n ca n' cb : Nat) (a b : List Bool) (k0 : Nat) (w : World) (B : Nat) => least_any Aa Ab A1 A2 (n1 + n2) n ca n' cb n1 c1 n2 c2 a b k0 w B rfl)
    have HKD := Lib.hid (fun (k : Nat) (hk : k < f.length) (W : World) (hb : Below wF.heap.size wF W) => KidsR_any A c f (k : Int) W w.heap.size (HFF.out.below hb HB2.out.size) (Nat.le_trans HB2.out.size hb.size) (by omega) ⟨by omega, by omega⟩)
    generalize rowsF (wbit st lo) (n1 + n2) n1 f = R at *
    obtain ⟨N, hN⟩ : ∃ N, N = n1 + n2 := ⟨_, rfl⟩
    rw [← hN] at HRL HAT hlp hNb hmk HLS
    have HNE := Lib.hid hN
    have HG := Lib.hid hG
    have hgF : g < wF.heap.size := by obtain ⟨vs, ho, _⟩ := hG; exact (ho.lt g rfl).2
    clear hN hR hlen hG hRL hgd hbF
    have hne0 : ((NR : Int) == 0) = false := by simp; omega
    have HNRE := Lib.hid hNR
    have hnrf : (((NR : Int)) != ((f.length : Nat) : Int)) = false := by simp; omega
    clear hNR
    go_wp2
    go_loopw [6] (fun i wr => ∃ k : Nat, k ≤ f.length ∧ i = .int .i64 k ∧ Below wF.heap.size wF wr) (fun i _ => f.length - (intOf i).toNat)
    case atStart => exact ⟨0, by omega, rfl, Below.refl _ _⟩
    case round =>
      obtain ⟨k, hk, rfl, hbr⟩ := hrel
      by_cases hkf : k < f.length
      · have hKd := HKD.out k hkf wr hbr
        have hfx := HFX.out k hkf
        have hat := HAT.out k hkf
        generalize hkd : kids f (k : Int) = p at *
        obtain ⟨l, r⟩ := p
        dsimp only at hKd hfx hat
        have HKK := Lib.hid hkd
        clear hkd
        go_wp2_with fail
        refine Calls.mono hKd ?_
        rintro e w2 ⟨rfl, hb2⟩
        have hbF2 : Below wF.heap.size wF w2 := hbr.trans (hb2.mono hbr.size)
        obtain ⟨bf, of_, rfl, _, hc0, hc1⟩ := rd_nd (HFF.out.below hbF2 HB2.out.size).rd hkf
        generalize f[k] = x at *
        obtain ⟨op, m⟩ := x
        dsimp only at hat hfx hc0 hc1
        dsimp only
        clear hKd hb2
        by_cases hop : op = 9 ∨ op = 10 ∨ op = 11 ∨ op = 12
        · have ht1 : 1 ≤ takes op := by rcases hop with rfl | rfl | rfl | rfl <;> decide
          obtain ⟨l0, l1, r0, r1, hone, htwo⟩ := hfx ht1
          obtain ⟨lN, rfl⟩ := Int.eq_ofNat_of_zero_le l0
          have hNRf := HNRE.out
          have hlN : lN < NR := by omega
          obtain ⟨ra, hra⟩ : ∃ r, R[lN]? = some r := ⟨R[lN]'(by rw [← HNR.out]; exact hlN), by simp⟩
          have hae : getR R (lN : Int) = ra := getR_some hra
          have haN : ra.length = N := HRL.out _ _ hra
          rw [hae] at hat
          have hbl : 0 ≤ r → (getR R r).length = N := by
            intro h
            obtain ⟨q, rfl⟩ := Int.eq_ofNat_of_zero_le h
            have hq : q < R.length := by rw [← HNR.out]; omega
            rw [getR_some (List.getElem?_eq_getElem hq)]
            exact HRL.out _ _ (List.getElem?_eq_getElem hq)
          have hlaw : ∀ j, j < N → ((placesL (wbit st lo) N n1 ⟨op, m⟩ ra (getR R r)).getD j false != (decide (op = 10) || decide (op = 12))) = run n1 N (lawA op r N ra) (lawB op r N ra (getR R r)) (2 * N + 1) j :=
            fun j hj => law_fix (x := ⟨op, m⟩) hlp haN hbl hop (fun h => by have := hone h; omega) htwo hj
          generalize placesL (wbit st lo) N n1 ⟨op, m⟩ ra (getR R r) = rk at *
          have hrkN := HRL.out _ _ hat
          have HRA := Lib.hid hra
          have HRK := Lib.hid hat
          obtain ⟨Ai, ci, hci, _⟩ := (HG.out.below hbF2).cellAt hat
          rw [hrkN] at hci
          have hlN2 : decide (NR ≤ lN) = false := by simp; omega
          have hkNR : k < NR := by omega
          clear hae hat hra hfx l0 l1 ht1 hbl hNRf
          rcases hop with rfl | rfl | rfl | rfl
          · as_aux_lemma =>
            have htu : (decide ((9 : Int) = 10) || decide ((9 : Int) = 12)) = false := by decide
            have hr0 := htwo (by decide)
            obtain ⟨rN, rfl⟩ := Int.eq_ofNat_of_zero_le hr0
            have hNRf := HNRE.out
            have hrN : rN < NR := by omega
            clear hNRf
            obtain ⟨rb, hrb⟩ : ∃ r, R[rN]? = some r := ⟨R[rN]'(by rw [← HNR.out]; exact hrN), by simp⟩
            have hbN := HRL.out _ _ hrb
            rw [getR_some hrb] at hlaw
            have HRB := Lib.hid hrb
            have hrn : decide (NR ≤ rN) = false := by simp; omega
            clear hrb hr0
            simp only [htu] at hlaw
            clear htu
            have HLAW := Lib.hid hlaw
            clear hlaw hone htwo r0 r1
            go_wp2_with fail
            go_cut [11, 12] (fun pa pb wF => MCut w2 N pa pb wF)
            case first =>
              refine wp_region_held_drew (S := fun w' => True) (by kernel_rfl) trivial (fun hS => ?_)
              refine wpAnyH_takeD (i := 0) (v := ?_) rfl (by kernel_rfl) (by kernel_rfl) (by kernel_rfl) (fun _ _ _ h => h) (Or.inl ⟨by kernel_rfl, ?_⟩) hS ?_
              rotate_left 1
              · (intro w' hSw; (try dsimp only at hSw); go_simp; try (with_reducible rfl))
              try simp only [Act.put, List.setIfInBounds_toArray, List.set_cons_zero, List.set_cons_succ]
              refine wpAnyH_takeD (i := 2) (v := ?_) rfl (by kernel_rfl) (by kernel_rfl) (by kernel_rfl) (fun _ _ _ h => h) (Or.inl ⟨by kernel_rfl, ?_⟩) hS ?_
              rotate_left 1
              · (intro w' hSw; (try dsimp only at hSw); go_simp; try (with_reducible rfl))
              try simp only [Act.put, List.setIfInBounds_toArray, List.set_cons_zero, List.set_cons_succ]
              refine wpAnyH_ready (rs := [1, 3]) (by kernel_rfl) (by simp) ?_
              refine (allReadyH_consD (i := 1) rfl (fun K hK => ?_) (allReadyH_consD (i := 3) rfl (fun K hK => ?_) AllReadyH.nil))
              · skip
                go_simp
                refine hK.out _ _ trivial (fun hS => ?_)
                clear hK
                try simp only [Act.put, List.setIfInBounds_toArray, List.set_cons_zero, List.set_cons_succ]
                refine wpAnyH_takeD (i := 4) (v := ?_) rfl (by kernel_rfl) (by kernel_rfl) (by kernel_rfl) (fun _ _ _ h => h) (Or.inl ⟨by kernel_rfl, ?_⟩) hS ?_
                rotate_left 1
                · (intro w' hSw; (try dsimp only at hSw); go_simp; try (with_reducible rfl))
                try simp only [Act.put, List.setIfInBounds_toArray, List.set_cons_zero, List.set_cons_succ]
                refine wpAnyH_oneD (i := 3) rfl (by kernel_rfl) (fun K hK => ?_)
                go_simp
                refine hK.out _ _ trivial (fun hS => ?_)
                clear hK
                try simp only [Act.put, List.setIfInBounds_toArray, List.set_cons_zero, List.set_cons_succ]
                refine wpAnyH_takeD (i := 5) (v := ?_) rfl (by kernel_rfl) (by kernel_rfl) (by kernel_rfl) (fun _ _ _ h => h) (Or.inl ⟨by kernel_rfl, ?_⟩) hS ?_
                rotate_left 1
                · (intro w' hSw; (try dsimp only at hSw); go_simp; try (with_reducible rfl))
                try simp only [Act.put, List.setIfInBounds_toArray, List.set_cons_zero, List.set_cons_succ]
                refine wpAnyH_done (by kernel_rfl) ?_ _
                go_wp2_with fail
                go_meet
                exact ⟨_, _, rfl, rfl, (two_made w2 N (by omega)).1⟩
              · skip
                go_simp
                refine hK.out _ _ trivial (fun hS => ?_)
                clear hK
                try simp only [Act.put, List.setIfInBounds_toArray, List.set_cons_zero, List.set_cons_succ]
                refine wpAnyH_oneD (i := 1) rfl (by kernel_rfl) (fun K hK => ?_)
                go_simp
                refine hK.out _ _ trivial (fun hS => ?_)
                clear hK
                try simp only [Act.put, List.setIfInBounds_toArray, List.set_cons_zero, List.set_cons_succ]
                refine wpAnyH_takeD (i := 4) (v := ?_) rfl (by kernel_rfl) (by kernel_rfl) (by kernel_rfl) (fun _ _ _ h => h) (Or.inl ⟨by kernel_rfl, ?_⟩) hS ?_
                rotate_left 1
                · (intro w' hSw; (try dsimp only at hSw); go_simp; try (with_reducible rfl))
                try simp only [Act.put, List.setIfInBounds_toArray, List.set_cons_zero, List.set_cons_succ]
                refine wpAnyH_takeD (i := 5) (v := ?_) rfl (by kernel_rfl) (by kernel_rfl) (by kernel_rfl) (fun _ _ _ h => h) (Or.inl ⟨by kernel_rfl, ?_⟩) hS ?_
                rotate_left 1
                · (intro w' hSw; (try dsimp only at hSw); go_simp; try (with_reducible rfl))
                try simp only [Act.put, List.setIfInBounds_toArray, List.set_cons_zero, List.set_cons_succ]
                refine wpAnyH_done (by kernel_rfl) ?_ _
                go_wp2_with fail
                go_meet
                exact ⟨_, _, rfl, rfl, (two_made w2 N (by omega)).2⟩
            case rest =>
              obtain ⟨ga, gb, rfl, rfl, hT⟩ := hcut
              have HT0 := Lib.hid hT
              have HAR := Lib.hid (And.intro hn2p (And.intro hkf hn0))
              clear hT hci hc0 hc1
              clear hmk hlN2 hrn hnrf hne0 hlp
              clear hn1 hn2 hpos hn2p hk hn0 hkf
              go_wp2
              go_loopw [13] (fun jv wr => ∃ j : Nat, j ≤ N ∧ jv = .int .i64 j ∧ TwB w2 wr ga gb N (upC N false (fun i => FA 9 (rN : Int) ra i) j) (upC N false (fun i => FB 9 (rN : Int) ra rb i) j)) (fun jv _ => N - (intOf jv).toNat)
              case atStart => exact ⟨0, by omega, rfl, by rw [upC_zero, upC_zero]; exact HT0.out⟩
              case round =>
                clear HT0
                obtain ⟨j, hj, rfl, hT⟩ := hrel
                by_cases hjN : j < N
                · have hbx : Below wF.heap.size wF wr := hbF2.trans (hT.bel.mono hbF2.size)
                  obtain ⟨Al, cl, hcl0, hsl0⟩ := HG.out.cellAt HRA.out
                  have hcl := (hbx.cell (p := ⟨g, lN, none⟩) hgF).trans hcl0
                  rw [haN] at hcl hsl0
                  obtain ⟨bl, ol, rfl, hblB, hcx⟩ := (hsl0.below hbx (Nat.le_refl _)).rd.at_ (bcells_at (l := ra) (i := j) (by omega))
                  obtain ⟨Ar, cr, hcr0, hsr0⟩ := HG.out.cellAt HRB.out
                  have hcr := (hbx.cell (p := ⟨g, rN, none⟩) hgF).trans hcr0
                  rw [hbN] at hcr hsr0
                  obtain ⟨br, or_, rfl, hbrB, hcy⟩ := (hsr0.below hbx (Nat.le_refl _)).rd.at_ (bcells_at (l := rb) (i := j) (by omega))
                  obtain ⟨⟨hca, hfa⟩, ⟨hcb, hfb⟩⟩ := hT.cell hjN
                  have hpA := hT.putA j (FA 9 (rN : Int) ra j)
                  rw [show (upC N false (fun i => FA 9 (rN : Int) ra i) j).set j (FA 9 (rN : Int) ra j) = upC N false (fun i => FA 9 (rN : Int) ra i) (j + 1) from upC_step (F := (fun i => FA 9 (rN : Int) ra i))] at hpA
                  have hpB := hpA.putB j (FB 9 (rN : Int) ra rb j)
                  rw [show (upC N false (fun i => FB 9 (rN : Int) ra rb i) j).set j (FB 9 (rN : Int) ra rb j) = upC N false (fun i => FB 9 (rN : Int) ra rb i) (j + 1) from upC_step (F := (fun i => FB 9 (rN : Int) ra rb i))] at hpB
                  have hne := hT.ne
                  have hne' : gb ≠ ga := fun e => hT.ne e.symm
                  generalize (upC N false (fun i => FA 9 (rN : Int) ra i) j).getD j false = ua at *
                  generalize (upC N false (fun i => FB 9 (rN : Int) ra rb i) j).getD j false = ub at *
                  have hgx : g < wr.heap.size := Nat.lt_of_lt_of_le hgF hbx.size
                  have hlga := (hT.a.lt ga rfl).1
                  have hlgb := (hT.b.lt gb rfl).1
                  have hg2 := Nat.lt_of_lt_of_le hgF hbF2.size
                  have hF2 := hbF2.size
                  have hgne : g ≠ ga := by omega
                  have hlne : bl ≠ ga := by omega
                  have p1 := fun v => (set_past (w := wr) (a := ⟨ga, j, none⟩) (b := ⟨g, lN, none⟩) hgne v).trans hcl
                  have p3 := fun v => (set_past (w := wr) (a := ⟨ga, j, none⟩) (b := ⟨gb, j, none⟩) hne' v).trans hcb
                  have hrne : br ≠ ga := by omega
                  have p5 := fun v => (set_past (w := wr) (a := ⟨ga, j, none⟩) (b := ⟨g, rN, none⟩) hgne v).trans hcr
                  clear hsr0 hcr0
                  clear hT hsl0 hpA hcl0
                  generalize hx : ra.getD j false = x at *
                  generalize hy : rb.getD j false = y at *
                  cases x <;> cases y
                  all_goals
                    have p2 := fun v => (set_past (w := wr) (a := ⟨ga, j, none⟩) (b := ⟨bl, ol + j, none⟩) hlne v).trans hcx
                    have p6 := fun v => (set_past (w := wr) (a := ⟨ga, j, none⟩) (b := ⟨br, or_ + j, none⟩) hrne v).trans hcy
                    have HP := Lib.hid hpB
                    have HX := Lib.hid hx
                    have HY := Lib.hid hy
                    clear hy
                    clear hpB hx
                    go_wp2
                    go_roundw
                    case rel => exact ⟨j + 1, by omega, by go_num, by have hp := HP.out; rw [fa_nat, fb_nat, HX.out, HY.out] at hp; exact hp⟩
                    case measure => simp [intOf]; omega
                · have hjn : j = N := by omega
                  subst hjn
                  rw [upC_end, upC_end] at hT
                  have hT' : TwB w2 wr ga gb j (lawA 9 (rN : Int) j ra) (lawB 9 (rN : Int) j ra rb) := hT
                  have HT0 := Lib.hid hT'
                  clear hT hT'
                  have HLE : Hid (∀ (i : Nat), i < j → ∀ (W : World), TwB w2 W ga gb j (lawA 9 (rN : Int) j ra) (lawB 9 (rN : Int) j ra rb) → Calls Try.prog 48 #[.slice (some ⟨ga, 0, none⟩) j j, .slice (some ⟨gb, 0, none⟩) j j, .agg #[.slice A1 n1 c1, .slice A2 n2 c2], .int .i64 (i : Int)] W (Tru W (rk.getD i false != false))) := Lib.hid (by
                    intro i hi W hT
                    have h0 : j ≤ 60000 := by omega
                    have h1 : (lawA 9 (rN : Int) j ra).length = j := by unfold lawA; rw [List.length_map, List.length_range]
                    have h2 : (lawB 9 (rN : Int) j ra rb).length = j := by unfold lawB; rw [List.length_map, List.length_range]
                    have h3 := HLS.out (some ⟨ga, 0, none⟩) (some ⟨gb, 0, none⟩) j j j j (lawA 9 (rN : Int) j ra) (lawB 9 (rN : Int) j ra rb) i W W.heap.size rfl rfl h1 h2 (sl_own hT.a) (sl_own hT.b) (Nat.le_refl _) h0 HAR.out.1 hi
                    rw [← HLAW.out i hi] at h3
                    exact h3)
                  go_wp2
                  go_loopw [15] (fun iv wr => ∃ i : Nat, i ≤ j ∧ iv = .int .i64 i ∧ TwB w2 wr ga gb j (lawA 9 (rN : Int) j ra) (lawB 9 (rN : Int) j ra rb)) (fun iv _ => j - (intOf iv).toNat)
                  case atStart => exact ⟨0, by omega, rfl, HT0.out⟩
                  case round =>
                    clear HT0
                    obtain ⟨i, hi, rfl, hTy⟩ := hrel
                    have hby : Below wF.heap.size wF wr := hbF2.trans (hTy.bel.mono hbF2.size)
                    by_cases hij : i < j
                    · obtain ⟨Ai, ci, hci, hsi⟩ := (HG.out.below hby).cellAt HRK.out
                      rw [hrkN] at hci hsi
                      obtain ⟨bi, oi, rfl, hbi, hcx⟩ := hsi.rd.at_ (bcells_at (l := rk) (i := i) (by omega))
                      have y0 := (hby.cell (p := ⟨w.heap.size, 0, none⟩) hqF).trans q0
                      have y1 := (hby.cell (p := ⟨w.heap.size, 1, none⟩) hqF).trans q1
                      have hgy : g < wr.heap.size := Nat.lt_of_lt_of_le hgF hby.size
                      have hqy : w.heap.size < wr.heap.size := Nat.lt_of_lt_of_le hqF hby.size
                      have hLE := HLE.out i hij wr.drew hTy.drew
                      generalize rk.getD i false = x at *
                      have HTY := Lib.hid hTy
                      clear hTy hsi
                      cases x
                      all_goals
                        have HLC := Lib.hid hLE
                        clear hLE
                        go_wp2_with fail
                        refine wp_region_held_drew (S := fun w' => (w'.cell? ⟨g, k, none⟩ = wr.cell? ⟨g, k, none⟩ ∧ w'.cell? ⟨bi, oi + i, none⟩ = wr.cell? ⟨bi, oi + i, none⟩) ∧ w'.cell? ⟨w.heap.size, 0, none⟩ = some (.slice A1 n1 c1) ∧ w'.cell? ⟨w.heap.size, 1, none⟩ = some (.slice A2 n2 c2)) (by kernel_rfl) ⟨⟨rfl, rfl⟩, y0, y1⟩ (fun hS => ?_)
                        refine wpAnyH_takeD (i := 0) (v := ?_) rfl (by kernel_rfl) (by kernel_rfl) (by kernel_rfl) (fun _ _ _ h => h) (Or.inl ⟨by kernel_rfl, ?_⟩) hS ?_
                        rotate_left 1
                        · (intro w' hSw; (try dsimp only at hSw); go_simp; try (with_reducible rfl))
                        try simp only [Act.put, List.setIfInBounds_toArray, List.set_cons_zero, List.set_cons_succ]
                        refine wpAnyH_takeD (i := 1) (v := ?_) rfl (by kernel_rfl) (by kernel_rfl) (by kernel_rfl) (fun _ _ _ h => h) (Or.inl ⟨by kernel_rfl, ?_⟩) hS ?_
                        rotate_left 1
                        · (intro w' hSw; (try dsimp only at hSw); go_simp; try (with_reducible rfl))
                        try simp only [Act.put, List.setIfInBounds_toArray, List.set_cons_zero, List.set_cons_succ]
                        refine wpAnyH_takeD (i := 2) (v := ?_) rfl (by kernel_rfl) (by kernel_rfl) (by kernel_rfl) (fun _ _ _ h => h) (Or.inl ⟨by kernel_rfl, ?_⟩) hS ?_
                        rotate_left 1
                        · (intro w' hSw; (try dsimp only at hSw); go_simp; try (with_reducible rfl))
                        try simp only [Act.put, List.setIfInBounds_toArray, List.set_cons_zero, List.set_cons_succ]
                        refine wpAnyH_takeD (i := 3) (v := ?_) rfl (by kernel_rfl) (by kernel_rfl) (by kernel_rfl) (fun _ _ _ h => h) (Or.inl ⟨by kernel_rfl, ?_⟩) hS ?_
                        rotate_left 1
                        · (intro w' hSw; (try dsimp only at hSw); go_simp; try (with_reducible rfl))
                        try simp only [Act.put, List.setIfInBounds_toArray, List.set_cons_zero, List.set_cons_succ]
                        refine wpAnyH_takeD (i := 4) (v := ?_) rfl (by kernel_rfl) (by kernel_rfl) (by kernel_rfl) (fun _ _ _ h => h) (Or.inl ⟨by kernel_rfl, ?_⟩) hS ?_
                        rotate_left 1
                        · (intro w' hSw; (try dsimp only at hSw); go_simp; try (with_reducible rfl))
                        try simp only [Act.put, List.setIfInBounds_toArray, List.set_cons_zero, List.set_cons_succ]
                        refine wpAnyH_takeD (i := 5) (v := ?_) rfl (by kernel_rfl) (by kernel_rfl) (by kernel_rfl) (fun _ _ _ h => h) (Or.inl ⟨by kernel_rfl, ?_⟩) hS ?_
                        rotate_left 1
                        · (intro w' hSw; (try dsimp only at hSw); go_simp; try (with_reducible rfl))
                        try simp only [Act.put, List.setIfInBounds_toArray, List.set_cons_zero, List.set_cons_succ]
                        refine wpAnyH_takeD (i := 6) (v := ?_) rfl (by kernel_rfl) (by kernel_rfl) (by kernel_rfl) (fun _ _ _ h => h) (Or.inl ⟨by kernel_rfl, ?_⟩) hS ?_
                        rotate_left 1
                        · (intro w' hSw; (try dsimp only at hSw); go_simp; try (with_reducible rfl))
                        try simp only [Act.put, List.setIfInBounds_toArray, List.set_cons_zero, List.set_cons_succ]
                        refine wpAnyH_takeD (i := 7) (v := ?_) rfl (by kernel_rfl) (by kernel_rfl) (by kernel_rfl) (fun _ _ _ h => h) (Or.inl ⟨by kernel_rfl, ?_⟩) hS ?_
                        rotate_left 1
                        · (intro w' hSw; (try dsimp only at hSw); go_simp; try (with_reducible rfl))
                        try simp only [Act.put, List.setIfInBounds_toArray, List.set_cons_zero, List.set_cons_succ]
                        refine wpAnyH_takeD (i := 8) (v := ?_) rfl (by kernel_rfl) (by kernel_rfl) (by kernel_rfl) (fun _ _ _ h => h) (Or.inl ⟨by kernel_rfl, ?_⟩) hS ?_
                        rotate_left 1
                        · (intro w' hSw; (try dsimp only at hSw); go_simp; try (with_reducible rfl))
                        try simp only [Act.put, List.setIfInBounds_toArray, List.set_cons_zero, List.set_cons_succ]
                        refine wpAnyH_takeD (i := 9) (v := ?_) rfl (by kernel_rfl) (by kernel_rfl) (by kernel_rfl) (fun _ _ _ h => h) (Or.inl ⟨by kernel_rfl, ?_⟩) hS ?_
                        rotate_left 1
                        · (intro w' hSw; (try dsimp only at hSw); go_simp; try (with_reducible rfl))
                        try simp only [Act.put, List.setIfInBounds_toArray, List.set_cons_zero, List.set_cons_succ]
                        refine wpAnyH_takeD (i := 10) (v := ?_) rfl (by kernel_rfl) (by kernel_rfl) (by kernel_rfl) (fun _ _ _ h => h) (Or.inl ⟨by kernel_rfl, ?_⟩) hS ?_
                        rotate_left 1
                        · (intro w' hSw; (try dsimp only at hSw); go_simp; try (with_reducible rfl))
                        try simp only [Act.put, List.setIfInBounds_toArray, List.set_cons_zero, List.set_cons_succ]
                        refine wpAnyH_takeD (i := 11) (v := ?_) rfl (by kernel_rfl) (by kernel_rfl) (by kernel_rfl) (fun _ _ _ h => h) (Or.inl ⟨by kernel_rfl, ?_⟩) hS ?_
                        rotate_left 1
                        · (intro w' hSw; (try dsimp only at hSw); go_simp; try (with_reducible rfl))
                        try simp only [Act.put, List.setIfInBounds_toArray, List.set_cons_zero, List.set_cons_succ]
                        refine wpAnyH_takeD (i := 12) (v := ?_) rfl (by kernel_rfl) (by kernel_rfl) (by kernel_rfl) (fun _ _ _ h => h) (Or.inl ⟨by kernel_rfl, ?_⟩) hS ?_
                        rotate_left 1
                        · (intro w' hSw; (try dsimp only at hSw); go_simp; try (with_reducible rfl))
                        try simp only [Act.put, List.setIfInBounds_toArray, List.set_cons_zero, List.set_cons_succ]
                        refine wpAnyH_takeD (i := 13) (v := ?_) rfl (by kernel_rfl) (by kernel_rfl) (by kernel_rfl) (fun _ _ _ h => h) (Or.inl ⟨by kernel_rfl, ?_⟩) hS ?_
                        rotate_left 1
                        · (intro w' hSw; (try dsimp only at hSw); go_simp; try (with_reducible rfl))
                        try simp only [Act.put, List.setIfInBounds_toArray, List.set_cons_zero, List.set_cons_succ]
                        refine wpAnyH_takeD (i := 14) (v := ?_) rfl (by kernel_rfl) (by kernel_rfl) (by kernel_rfl) (fun _ _ _ h => h) (Or.inl ⟨by kernel_rfl, ?_⟩) hS ?_
                        rotate_left 1
                        · (intro w' hSw; (try dsimp only at hSw); go_simp; try (with_reducible rfl))
                        try simp only [Act.put, List.setIfInBounds_toArray, List.set_cons_zero, List.set_cons_succ]
                        refine wpAnyH_takeD (i := 15) (v := ?_) rfl (by kernel_rfl) (by kernel_rfl) (by kernel_rfl) (fun _ _ _ h => h) (Or.inl ⟨by kernel_rfl, ?_⟩) hS ?_
                        rotate_left 1
                        · (intro w' hSw; (try dsimp only at hSw); go_simp; try (with_reducible rfl))
                        try simp only [Act.put, List.setIfInBounds_toArray, List.set_cons_zero, List.set_cons_succ]
                        refine wpAnyH_takeD (i := 16) (v := ?_) rfl (by kernel_rfl) (by kernel_rfl) (by kernel_rfl) (fun _ _ _ h => h) (Or.inl ⟨by kernel_rfl, ?_⟩) hS ?_
                        rotate_left 1
                        · (intro w' hSw; (try dsimp only at hSw); go_simp; try (with_reducible rfl))
                        try simp only [Act.put, List.setIfInBounds_toArray, List.set_cons_zero, List.set_cons_succ]
                        refine wpAnyH_takeD (i := 17) (v := ?_) rfl (by kernel_rfl) (by kernel_rfl) (by kernel_rfl) (fun _ _ _ h => h) (Or.inl ⟨by kernel_rfl, ?_⟩) hS ?_
                        rotate_left 1
                        · (intro w' hSw; (try dsimp only at hSw); go_simp; try (with_reducible rfl))
                        try simp only [Act.put, List.setIfInBounds_toArray, List.set_cons_zero, List.set_cons_succ]
                        refine wpAnyH_oneD (i := 18) rfl (by kernel_rfl) (fun K hK => ?_)
                        go_simp
                        refine Calls.mono HLC.out ?_
                        rintro e w8 ⟨rfl, hb8'⟩
                        have hb8 : Below wr.heap.size wr w8 := below_undrew hb8'
                        have m0 := (hb8.cell (p := ⟨g, k, none⟩) hgy)
                        have m1 := (hb8.cell (p := ⟨bi, oi + i, none⟩) hbi)
                        have m2 := (hb8.cell (p := ⟨w.heap.size, 0, none⟩) hqy).trans y0
                        have m3 := (hb8.cell (p := ⟨w.heap.size, 1, none⟩) hqy).trans y1
                        go_wp2_with fail
                        refine hK.out _ _ ⟨⟨m0, m1⟩, m2, m3⟩ (fun hS => ?_)
                        clear hK
                        try simp only [Act.put, List.setIfInBounds_toArray, List.set_cons_zero, List.set_cons_succ]
                        refine wpAnyH_takeD (i := 19) (v := ?_) rfl (by kernel_rfl) (by kernel_rfl) (by kernel_rfl) (fun _ _ _ h => h) (Or.inl ⟨by kernel_rfl, ?_⟩) hS ?_
                        rotate_left 1
                        · (intro w' hSw; (try dsimp only at hSw); go_simp; try (with_reducible rfl))
                        try simp only [Act.put, List.setIfInBounds_toArray, List.set_cons_zero, List.set_cons_succ]
                        refine wpAnyH_done (by kernel_rfl) ?_ _
                        go_wp2
                        go_roundw
                        case rel => exact ⟨i + 1, by omega, by go_num, HTY.out.below hb8⟩
                        case measure => simp [intOf]; omega
                    · have hijn : i = j := by omega
                      subst hijn
                      have hkf := HAR.out.2.1
                      have hn0 := HAR.out.2.2
                      go_wp2
                      go_roundw
                      case rel => exact ⟨k + 1, by omega, by go_num, hby⟩
                      case measure => simp [intOf]; omega
          · as_aux_lemma =>
            have hr0 := htwo (by decide)
            obtain ⟨rN, rfl⟩ := Int.eq_ofNat_of_zero_le hr0
            have hNRf := HNRE.out
            have hrN : rN < NR := by omega
            clear hNRf
            obtain ⟨rb, hrb⟩ : ∃ r, R[rN]? = some r := ⟨R[rN]'(by rw [← HNR.out]; exact hrN), by simp⟩
            have hbN := HRL.out _ _ hrb
            rw [getR_some hrb] at hlaw
            have HRB := Lib.hid hrb
            have hrn : decide (NR ≤ rN) = false := by simp; omega
            clear hrb hr0
            simp only at hlaw
            have HLAW := Lib.hid hlaw
            clear hlaw hone htwo r0 r1
            go_wp2_with fail
            go_cut [11, 12] (fun pa pb wF => MCut w2 N pa pb wF)
            case first =>
              refine wp_region_held_drew (S := fun w' => True) (by kernel_rfl) trivial (fun hS => ?_)
              refine wpAnyH_takeD (i := 0) (v := ?_) rfl (by kernel_rfl) (by kernel_rfl) (by kernel_rfl) (fun _ _ _ h => h) (Or.inl ⟨by kernel_rfl, ?_⟩) hS ?_
              rotate_left 1
              · (intro w' hSw; (try dsimp only at hSw); go_simp; try (with_reducible rfl))
              try simp only [Act.put, List.setIfInBounds_toArray, List.set_cons_zero, List.set_cons_succ]
              refine wpAnyH_takeD (i := 2) (v := ?_) rfl (by kernel_rfl) (by kernel_rfl) (by kernel_rfl) (fun _ _ _ h => h) (Or.inl ⟨by kernel_rfl, ?_⟩) hS ?_
              rotate_left 1
              · (intro w' hSw; (try dsimp only at hSw); go_simp; try (with_reducible rfl))
              try simp only [Act.put, List.setIfInBounds_toArray, List.set_cons_zero, List.set_cons_succ]
              refine wpAnyH_ready (rs := [1, 3]) (by kernel_rfl) (by simp) ?_
              refine (allReadyH_consD (i := 1) rfl (fun K hK => ?_) (allReadyH_consD (i := 3) rfl (fun K hK => ?_) AllReadyH.nil))
              · skip
                go_simp
                refine hK.out _ _ trivial (fun hS => ?_)
                clear hK
                try simp only [Act.put, List.setIfInBounds_toArray, List.set_cons_zero, List.set_cons_succ]
                refine wpAnyH_takeD (i := 4) (v := ?_) rfl (by kernel_rfl) (by kernel_rfl) (by kernel_rfl) (fun _ _ _ h => h) (Or.inl ⟨by kernel_rfl, ?_⟩) hS ?_
                rotate_left 1
                · (intro w' hSw; (try dsimp only at hSw); go_simp; try (with_reducible rfl))
                try simp only [Act.put, List.setIfInBounds_toArray, List.set_cons_zero, List.set_cons_succ]
                refine wpAnyH_oneD (i := 3) rfl (by kernel_rfl) (fun K hK => ?_)
                go_simp
                refine hK.out _ _ trivial (fun hS => ?_)
                clear hK
                try simp only [Act.put, List.setIfInBounds_toArray, List.set_cons_zero, List.set_cons_succ]
                refine wpAnyH_takeD (i := 5) (v := ?_) rfl (by kernel_rfl) (by kernel_rfl) (by kernel_rfl) (fun _ _ _ h => h) (Or.inl ⟨by kernel_rfl, ?_⟩) hS ?_
                rotate_left 1
                · (intro w' hSw; (try dsimp only at hSw); go_simp; try (with_reducible rfl))
                try simp only [Act.put, List.setIfInBounds_toArray, List.set_cons_zero, List.set_cons_succ]
                refine wpAnyH_done (by kernel_rfl) ?_ _
                go_wp2_with fail
                go_meet
                exact ⟨_, _, rfl, rfl, (two_made w2 N (by omega)).1⟩
              · skip
                go_simp
                refine hK.out _ _ trivial (fun hS => ?_)
                clear hK
                try simp only [Act.put, List.setIfInBounds_toArray, List.set_cons_zero, List.set_cons_succ]
                refine wpAnyH_oneD (i := 1) rfl (by kernel_rfl) (fun K hK => ?_)
                go_simp
                refine hK.out _ _ trivial (fun hS => ?_)
                clear hK
                try simp only [Act.put, List.setIfInBounds_toArray, List.set_cons_zero, List.set_cons_succ]
                refine wpAnyH_takeD (i := 4) (v := ?_) rfl (by kernel_rfl) (by kernel_rfl) (by kernel_rfl) (fun _ _ _ h => h) (Or.inl ⟨by kernel_rfl, ?_⟩) hS ?_
                rotate_left 1
                · (intro w' hSw; (try dsimp only at hSw); go_simp; try (with_reducible rfl))
                try simp only [Act.put, List.setIfInBounds_toArray, List.set_cons_zero, List.set_cons_succ]
                refine wpAnyH_takeD (i := 5) (v := ?_) rfl (by kernel_rfl) (by kernel_rfl) (by kernel_rfl) (fun _ _ _ h => h) (Or.inl ⟨by kernel_rfl, ?_⟩) hS ?_
                rotate_left 1
                · (intro w' hSw; (try dsimp only at hSw); go_simp; try (with_reducible rfl))
                try simp only [Act.put, List.setIfInBounds_toArray, List.set_cons_zero, List.set_cons_succ]
                refine wpAnyH_done (by kernel_rfl) ?_ _
                go_wp2_with fail
                go_meet
                exact ⟨_, _, rfl, rfl, (two_made w2 N (by omega)).2⟩
            case rest =>
              obtain ⟨ga, gb, rfl, rfl, hT⟩ := hcut
              have HT0 := Lib.hid hT
              have HAR := Lib.hid (And.intro hn2p (And.intro hkf hn0))
              clear hT hci hc0 hc1
              clear hmk hlN2 hrn hnrf hne0 hlp
              clear hn1 hn2 hpos hn2p hk hn0 hkf
              go_wp2
              go_loopw [13] (fun jv wr => ∃ j : Nat, j ≤ N ∧ jv = .int .i64 j ∧ TwB w2 wr ga gb N (upC N false (fun i => FA 10 (rN : Int) ra i) j) (upC N false (fun i => FB 10 (rN : Int) ra rb i) j)) (fun jv _ => N - (intOf jv).toNat)
              case atStart => exact ⟨0, by omega, rfl, by rw [upC_zero, upC_zero]; exact HT0.out⟩
              case round =>
                clear HT0
                obtain ⟨j, hj, rfl, hT⟩ := hrel
                by_cases hjN : j < N
                · have hbx : Below wF.heap.size wF wr := hbF2.trans (hT.bel.mono hbF2.size)
                  obtain ⟨Al, cl, hcl0, hsl0⟩ := HG.out.cellAt HRA.out
                  have hcl := (hbx.cell (p := ⟨g, lN, none⟩) hgF).trans hcl0
                  rw [haN] at hcl hsl0
                  obtain ⟨bl, ol, rfl, hblB, hcx⟩ := (hsl0.below hbx (Nat.le_refl _)).rd.at_ (bcells_at (l := ra) (i := j) (by omega))
                  obtain ⟨Ar, cr, hcr0, hsr0⟩ := HG.out.cellAt HRB.out
                  have hcr := (hbx.cell (p := ⟨g, rN, none⟩) hgF).trans hcr0
                  rw [hbN] at hcr hsr0
                  obtain ⟨br, or_, rfl, hbrB, hcy⟩ := (hsr0.below hbx (Nat.le_refl _)).rd.at_ (bcells_at (l := rb) (i := j) (by omega))
                  obtain ⟨⟨hca, hfa⟩, ⟨hcb, hfb⟩⟩ := hT.cell hjN
                  have hpA := hT.putA j (FA 10 (rN : Int) ra j)
                  rw [show (upC N false (fun i => FA 10 (rN : Int) ra i) j).set j (FA 10 (rN : Int) ra j) = upC N false (fun i => FA 10 (rN : Int) ra i) (j + 1) from upC_step (F := (fun i => FA 10 (rN : Int) ra i))] at hpA
                  have hpB := hpA.putB j (FB 10 (rN : Int) ra rb j)
                  rw [show (upC N false (fun i => FB 10 (rN : Int) ra rb i) j).set j (FB 10 (rN : Int) ra rb j) = upC N false (fun i => FB 10 (rN : Int) ra rb i) (j + 1) from upC_step (F := (fun i => FB 10 (rN : Int) ra rb i))] at hpB
                  have hne := hT.ne
                  have hne' : gb ≠ ga := fun e => hT.ne e.symm
                  generalize (upC N false (fun i => FA 10 (rN : Int) ra i) j).getD j false = ua at *
                  generalize (upC N false (fun i => FB 10 (rN : Int) ra rb i) j).getD j false = ub at *
                  have hgx : g < wr.heap.size := Nat.lt_of_lt_of_le hgF hbx.size
                  have hlga := (hT.a.lt ga rfl).1
                  have hlgb := (hT.b.lt gb rfl).1
                  have hg2 := Nat.lt_of_lt_of_le hgF hbF2.size
                  have hF2 := hbF2.size
                  have hgne : g ≠ ga := by omega
                  have hlne : bl ≠ ga := by omega
                  have p1 := fun v => (set_past (w := wr) (a := ⟨ga, j, none⟩) (b := ⟨g, lN, none⟩) hgne v).trans hcl
                  have p3 := fun v => (set_past (w := wr) (a := ⟨ga, j, none⟩) (b := ⟨gb, j, none⟩) hne' v).trans hcb
                  have hrne : br ≠ ga := by omega
                  have p5 := fun v => (set_past (w := wr) (a := ⟨ga, j, none⟩) (b := ⟨g, rN, none⟩) hgne v).trans hcr
                  clear hsr0 hcr0
                  clear hT hsl0 hpA hcl0
                  generalize hx : ra.getD j false = x at *
                  generalize hy : rb.getD j false = y at *
                  cases x <;> cases y
                  all_goals
                    have p2 := fun v => (set_past (w := wr) (a := ⟨ga, j, none⟩) (b := ⟨bl, ol + j, none⟩) hlne v).trans hcx
                    have p6 := fun v => (set_past (w := wr) (a := ⟨ga, j, none⟩) (b := ⟨br, or_ + j, none⟩) hrne v).trans hcy
                    have HP := Lib.hid hpB
                    have HX := Lib.hid hx
                    have HY := Lib.hid hy
                    clear hy
                    clear hpB hx
                    go_wp2
                    go_roundw
                    case rel => exact ⟨j + 1, by omega, by go_num, by have hp := HP.out; rw [fa_nat, fb_nat, HX.out, HY.out] at hp; exact hp⟩
                    case measure => simp [intOf]; omega
                · have hjn : j = N := by omega
                  subst hjn
                  rw [upC_end, upC_end] at hT
                  have hT' : TwB w2 wr ga gb j (lawA 10 (rN : Int) j ra) (lawB 10 (rN : Int) j ra rb) := hT
                  have HT0 := Lib.hid hT'
                  clear hT hT'
                  have HLE : Hid (∀ (i : Nat), i < j → ∀ (W : World), TwB w2 W ga gb j (lawA 10 (rN : Int) j ra) (lawB 10 (rN : Int) j ra rb) → Calls Try.prog 48 #[.slice (some ⟨ga, 0, none⟩) j j, .slice (some ⟨gb, 0, none⟩) j j, .agg #[.slice A1 n1 c1, .slice A2 n2 c2], .int .i64 (i : Int)] W (Tru W (rk.getD i false != true))) := Lib.hid (by
                    intro i hi W hT
                    have h0 : j ≤ 60000 := by omega
                    have h1 : (lawA 10 (rN : Int) j ra).length = j := by unfold lawA; rw [List.length_map, List.length_range]
                    have h2 : (lawB 10 (rN : Int) j ra rb).length = j := by unfold lawB; rw [List.length_map, List.length_range]
                    have h3 := HLS.out (some ⟨ga, 0, none⟩) (some ⟨gb, 0, none⟩) j j j j (lawA 10 (rN : Int) j ra) (lawB 10 (rN : Int) j ra rb) i W W.heap.size rfl rfl h1 h2 (sl_own hT.a) (sl_own hT.b) (Nat.le_refl _) h0 HAR.out.1 hi
                    rw [← HLAW.out i hi] at h3
                    exact h3)
                  go_wp2
                  go_loopw [15] (fun iv wr => ∃ i : Nat, i ≤ j ∧ iv = .int .i64 i ∧ TwB w2 wr ga gb j (lawA 10 (rN : Int) j ra) (lawB 10 (rN : Int) j ra rb)) (fun iv _ => j - (intOf iv).toNat)
                  case atStart => exact ⟨0, by omega, rfl, HT0.out⟩
                  case round =>
                    clear HT0
                    obtain ⟨i, hi, rfl, hTy⟩ := hrel
                    have hby : Below wF.heap.size wF wr := hbF2.trans (hTy.bel.mono hbF2.size)
                    by_cases hij : i < j
                    · obtain ⟨Ai, ci, hci, hsi⟩ := (HG.out.below hby).cellAt HRK.out
                      rw [hrkN] at hci hsi
                      obtain ⟨bi, oi, rfl, hbi, hcx⟩ := hsi.rd.at_ (bcells_at (l := rk) (i := i) (by omega))
                      have y0 := (hby.cell (p := ⟨w.heap.size, 0, none⟩) hqF).trans q0
                      have y1 := (hby.cell (p := ⟨w.heap.size, 1, none⟩) hqF).trans q1
                      have hgy : g < wr.heap.size := Nat.lt_of_lt_of_le hgF hby.size
                      have hqy : w.heap.size < wr.heap.size := Nat.lt_of_lt_of_le hqF hby.size
                      have hLE := HLE.out i hij wr.drew hTy.drew
                      generalize rk.getD i false = x at *
                      have HTY := Lib.hid hTy
                      clear hTy hsi
                      cases x
                      all_goals
                        have HLC := Lib.hid hLE
                        clear hLE
                        go_wp2_with fail
                        refine wp_region_held_drew (S := fun w' => (w'.cell? ⟨g, k, none⟩ = wr.cell? ⟨g, k, none⟩ ∧ w'.cell? ⟨bi, oi + i, none⟩ = wr.cell? ⟨bi, oi + i, none⟩) ∧ w'.cell? ⟨w.heap.size, 0, none⟩ = some (.slice A1 n1 c1) ∧ w'.cell? ⟨w.heap.size, 1, none⟩ = some (.slice A2 n2 c2)) (by kernel_rfl) ⟨⟨rfl, rfl⟩, y0, y1⟩ (fun hS => ?_)
                        refine wpAnyH_takeD (i := 0) (v := ?_) rfl (by kernel_rfl) (by kernel_rfl) (by kernel_rfl) (fun _ _ _ h => h) (Or.inl ⟨by kernel_rfl, ?_⟩) hS ?_
                        rotate_left 1
                        · (intro w' hSw; (try dsimp only at hSw); go_simp; try (with_reducible rfl))
                        try simp only [Act.put, List.setIfInBounds_toArray, List.set_cons_zero, List.set_cons_succ]
                        refine wpAnyH_takeD (i := 1) (v := ?_) rfl (by kernel_rfl) (by kernel_rfl) (by kernel_rfl) (fun _ _ _ h => h) (Or.inl ⟨by kernel_rfl, ?_⟩) hS ?_
                        rotate_left 1
                        · (intro w' hSw; (try dsimp only at hSw); go_simp; try (with_reducible rfl))
                        try simp only [Act.put, List.setIfInBounds_toArray, List.set_cons_zero, List.set_cons_succ]
                        refine wpAnyH_takeD (i := 2) (v := ?_) rfl (by kernel_rfl) (by kernel_rfl) (by kernel_rfl) (fun _ _ _ h => h) (Or.inl ⟨by kernel_rfl, ?_⟩) hS ?_
                        rotate_left 1
                        · (intro w' hSw; (try dsimp only at hSw); go_simp; try (with_reducible rfl))
                        try simp only [Act.put, List.setIfInBounds_toArray, List.set_cons_zero, List.set_cons_succ]
                        refine wpAnyH_takeD (i := 3) (v := ?_) rfl (by kernel_rfl) (by kernel_rfl) (by kernel_rfl) (fun _ _ _ h => h) (Or.inl ⟨by kernel_rfl, ?_⟩) hS ?_
                        rotate_left 1
                        · (intro w' hSw; (try dsimp only at hSw); go_simp; try (with_reducible rfl))
                        try simp only [Act.put, List.setIfInBounds_toArray, List.set_cons_zero, List.set_cons_succ]
                        refine wpAnyH_takeD (i := 4) (v := ?_) rfl (by kernel_rfl) (by kernel_rfl) (by kernel_rfl) (fun _ _ _ h => h) (Or.inl ⟨by kernel_rfl, ?_⟩) hS ?_
                        rotate_left 1
                        · (intro w' hSw; (try dsimp only at hSw); go_simp; try (with_reducible rfl))
                        try simp only [Act.put, List.setIfInBounds_toArray, List.set_cons_zero, List.set_cons_succ]
                        refine wpAnyH_takeD (i := 5) (v := ?_) rfl (by kernel_rfl) (by kernel_rfl) (by kernel_rfl) (fun _ _ _ h => h) (Or.inl ⟨by kernel_rfl, ?_⟩) hS ?_
                        rotate_left 1
                        · (intro w' hSw; (try dsimp only at hSw); go_simp; try (with_reducible rfl))
                        try simp only [Act.put, List.setIfInBounds_toArray, List.set_cons_zero, List.set_cons_succ]
                        refine wpAnyH_takeD (i := 6) (v := ?_) rfl (by kernel_rfl) (by kernel_rfl) (by kernel_rfl) (fun _ _ _ h => h) (Or.inl ⟨by kernel_rfl, ?_⟩) hS ?_
                        rotate_left 1
                        · (intro w' hSw; (try dsimp only at hSw); go_simp; try (with_reducible rfl))
                        try simp only [Act.put, List.setIfInBounds_toArray, List.set_cons_zero, List.set_cons_succ]
                        refine wpAnyH_takeD (i := 7) (v := ?_) rfl (by kernel_rfl) (by kernel_rfl) (by kernel_rfl) (fun _ _ _ h => h) (Or.inl ⟨by kernel_rfl, ?_⟩) hS ?_
                        rotate_left 1
                        · (intro w' hSw; (try dsimp only at hSw); go_simp; try (with_reducible rfl))
                        try simp only [Act.put, List.setIfInBounds_toArray, List.set_cons_zero, List.set_cons_succ]
                        refine wpAnyH_takeD (i := 8) (v := ?_) rfl (by kernel_rfl) (by kernel_rfl) (by kernel_rfl) (fun _ _ _ h => h) (Or.inl ⟨by kernel_rfl, ?_⟩) hS ?_
                        rotate_left 1
                        · (intro w' hSw; (try dsimp only at hSw); go_simp; try (with_reducible rfl))
                        try simp only [Act.put, List.setIfInBounds_toArray, List.set_cons_zero, List.set_cons_succ]
                        refine wpAnyH_takeD (i := 9) (v := ?_) rfl (by kernel_rfl) (by kernel_rfl) (by kernel_rfl) (fun _ _ _ h => h) (Or.inl ⟨by kernel_rfl, ?_⟩) hS ?_
                        rotate_left 1
                        · (intro w' hSw; (try dsimp only at hSw); go_simp; try (with_reducible rfl))
                        try simp only [Act.put, List.setIfInBounds_toArray, List.set_cons_zero, List.set_cons_succ]
                        refine wpAnyH_takeD (i := 10) (v := undef) rfl (by kernel_rfl) (by kernel_rfl) (by kernel_rfl) (fun _ _ _ h => h) (Or.inr ⟨by kernel_rfl, rfl⟩) hS ?_
                        try simp only [Act.put, List.setIfInBounds_toArray, List.set_cons_zero, List.set_cons_succ]
                        refine wpAnyH_takeD (i := 11) (v := undef) rfl (by kernel_rfl) (by kernel_rfl) (by kernel_rfl) (fun _ _ _ h => h) (Or.inr ⟨by kernel_rfl, rfl⟩) hS ?_
                        try simp only [Act.put, List.setIfInBounds_toArray, List.set_cons_zero, List.set_cons_succ]
                        refine wpAnyH_takeD (i := 12) (v := ?_) rfl (by kernel_rfl) (by kernel_rfl) (by kernel_rfl) (fun _ _ _ h => h) (Or.inl ⟨by kernel_rfl, ?_⟩) hS ?_
                        rotate_left 1
                        · (intro w' hSw; (try dsimp only at hSw); go_simp; try (with_reducible rfl))
                        try simp only [Act.put, List.setIfInBounds_toArray, List.set_cons_zero, List.set_cons_succ]
                        refine wpAnyH_takeD (i := 13) (v := ?_) rfl (by kernel_rfl) (by kernel_rfl) (by kernel_rfl) (fun _ _ _ h => h) (Or.inl ⟨by kernel_rfl, ?_⟩) hS ?_
                        rotate_left 1
                        · (intro w' hSw; (try dsimp only at hSw); go_simp; try (with_reducible rfl))
                        try simp only [Act.put, List.setIfInBounds_toArray, List.set_cons_zero, List.set_cons_succ]
                        refine wpAnyH_takeD (i := 14) (v := ?_) rfl (by kernel_rfl) (by kernel_rfl) (by kernel_rfl) (fun _ _ _ h => h) (Or.inl ⟨by kernel_rfl, ?_⟩) hS ?_
                        rotate_left 1
                        · (intro w' hSw; (try dsimp only at hSw); go_simp; try (with_reducible rfl))
                        try simp only [Act.put, List.setIfInBounds_toArray, List.set_cons_zero, List.set_cons_succ]
                        refine wpAnyH_takeD (i := 15) (v := ?_) rfl (by kernel_rfl) (by kernel_rfl) (by kernel_rfl) (fun _ _ _ h => h) (Or.inl ⟨by kernel_rfl, ?_⟩) hS ?_
                        rotate_left 1
                        · (intro w' hSw; (try dsimp only at hSw); go_simp; try (with_reducible rfl))
                        try simp only [Act.put, List.setIfInBounds_toArray, List.set_cons_zero, List.set_cons_succ]
                        refine wpAnyH_takeD (i := 16) (v := ?_) rfl (by kernel_rfl) (by kernel_rfl) (by kernel_rfl) (fun _ _ _ h => h) (Or.inl ⟨by kernel_rfl, ?_⟩) hS ?_
                        rotate_left 1
                        · (intro w' hSw; (try dsimp only at hSw); go_simp; try (with_reducible rfl))
                        try simp only [Act.put, List.setIfInBounds_toArray, List.set_cons_zero, List.set_cons_succ]
                        refine wpAnyH_takeD (i := 17) (v := ?_) rfl (by kernel_rfl) (by kernel_rfl) (by kernel_rfl) (fun _ _ _ h => h) (Or.inl ⟨by kernel_rfl, ?_⟩) hS ?_
                        rotate_left 1
                        · (intro w' hSw; (try dsimp only at hSw); go_simp; try (with_reducible rfl))
                        try simp only [Act.put, List.setIfInBounds_toArray, List.set_cons_zero, List.set_cons_succ]
                        refine wpAnyH_oneD (i := 18) rfl (by kernel_rfl) (fun K hK => ?_)
                        go_simp
                        refine Calls.mono HLC.out ?_
                        rintro e w8 ⟨rfl, hb8'⟩
                        have hb8 : Below wr.heap.size wr w8 := below_undrew hb8'
                        have m0 := (hb8.cell (p := ⟨g, k, none⟩) hgy)
                        have m1 := (hb8.cell (p := ⟨bi, oi + i, none⟩) hbi)
                        have m2 := (hb8.cell (p := ⟨w.heap.size, 0, none⟩) hqy).trans y0
                        have m3 := (hb8.cell (p := ⟨w.heap.size, 1, none⟩) hqy).trans y1
                        go_wp2_with fail
                        refine hK.out _ _ ⟨⟨m0, m1⟩, m2, m3⟩ (fun hS => ?_)
                        clear hK
                        try simp only [Act.put, List.setIfInBounds_toArray, List.set_cons_zero, List.set_cons_succ]
                        refine wpAnyH_takeD (i := 19) (v := ?_) rfl (by kernel_rfl) (by kernel_rfl) (by kernel_rfl) (fun _ _ _ h => h) (Or.inl ⟨by kernel_rfl, ?_⟩) hS ?_
                        rotate_left 1
                        · (intro w' hSw; (try dsimp only at hSw); go_simp; try (with_reducible rfl))
                        try simp only [Act.put, List.setIfInBounds_toArray, List.set_cons_zero, List.set_cons_succ]
                        refine wpAnyH_done (by kernel_rfl) ?_ _
                        go_wp2
                        go_roundw
                        case rel => exact ⟨i + 1, by omega, by go_num, HTY.out.below hb8⟩
                        case measure => simp [intOf]; omega
                    · have hijn : i = j := by omega
                      subst hijn
                      have hkf := HAR.out.2.1
                      have hn0 := HAR.out.2.2
                      go_wp2
                      go_roundw
                      case rel => exact ⟨k + 1, by omega, by go_num, hby⟩
                      case measure => simp [intOf]; omega
          · as_aux_lemma =>
            have htu : (decide ((11 : Int) = 10) || decide ((11 : Int) = 12)) = false := by decide
            have hr1 : r = -1 := hone (by decide)
            subst hr1
            have hrn : ¬ ((NR : Int) ≤ -1) := by omega
            rw [show getR R (-1) = [] from rfl] at hlaw
            simp only [htu] at hlaw
            clear htu
            have HLAW := Lib.hid hlaw
            clear hlaw hone htwo r0 r1
            go_wp2_with fail
            go_cut [11, 12] (fun pa pb wF => MCut w2 N pa pb wF)
            case first =>
              refine wp_region_held_drew (S := fun w' => True) (by kernel_rfl) trivial (fun hS => ?_)
              refine wpAnyH_takeD (i := 0) (v := ?_) rfl (by kernel_rfl) (by kernel_rfl) (by kernel_rfl) (fun _ _ _ h => h) (Or.inl ⟨by kernel_rfl, ?_⟩) hS ?_
              rotate_left 1
              · (intro w' hSw; (try dsimp only at hSw); go_simp; try (with_reducible rfl))
              try simp only [Act.put, List.setIfInBounds_toArray, List.set_cons_zero, List.set_cons_succ]
              refine wpAnyH_takeD (i := 2) (v := ?_) rfl (by kernel_rfl) (by kernel_rfl) (by kernel_rfl) (fun _ _ _ h => h) (Or.inl ⟨by kernel_rfl, ?_⟩) hS ?_
              rotate_left 1
              · (intro w' hSw; (try dsimp only at hSw); go_simp; try (with_reducible rfl))
              try simp only [Act.put, List.setIfInBounds_toArray, List.set_cons_zero, List.set_cons_succ]
              refine wpAnyH_ready (rs := [1, 3]) (by kernel_rfl) (by simp) ?_
              refine (allReadyH_consD (i := 1) rfl (fun K hK => ?_) (allReadyH_consD (i := 3) rfl (fun K hK => ?_) AllReadyH.nil))
              · skip
                go_simp
                refine hK.out _ _ trivial (fun hS => ?_)
                clear hK
                try simp only [Act.put, List.setIfInBounds_toArray, List.set_cons_zero, List.set_cons_succ]
                refine wpAnyH_takeD (i := 4) (v := ?_) rfl (by kernel_rfl) (by kernel_rfl) (by kernel_rfl) (fun _ _ _ h => h) (Or.inl ⟨by kernel_rfl, ?_⟩) hS ?_
                rotate_left 1
                · (intro w' hSw; (try dsimp only at hSw); go_simp; try (with_reducible rfl))
                try simp only [Act.put, List.setIfInBounds_toArray, List.set_cons_zero, List.set_cons_succ]
                refine wpAnyH_oneD (i := 3) rfl (by kernel_rfl) (fun K hK => ?_)
                go_simp
                refine hK.out _ _ trivial (fun hS => ?_)
                clear hK
                try simp only [Act.put, List.setIfInBounds_toArray, List.set_cons_zero, List.set_cons_succ]
                refine wpAnyH_takeD (i := 5) (v := ?_) rfl (by kernel_rfl) (by kernel_rfl) (by kernel_rfl) (fun _ _ _ h => h) (Or.inl ⟨by kernel_rfl, ?_⟩) hS ?_
                rotate_left 1
                · (intro w' hSw; (try dsimp only at hSw); go_simp; try (with_reducible rfl))
                try simp only [Act.put, List.setIfInBounds_toArray, List.set_cons_zero, List.set_cons_succ]
                refine wpAnyH_done (by kernel_rfl) ?_ _
                go_wp2_with fail
                go_meet
                exact ⟨_, _, rfl, rfl, (two_made w2 N (by omega)).1⟩
              · skip
                go_simp
                refine hK.out _ _ trivial (fun hS => ?_)
                clear hK
                try simp only [Act.put, List.setIfInBounds_toArray, List.set_cons_zero, List.set_cons_succ]
                refine wpAnyH_oneD (i := 1) rfl (by kernel_rfl) (fun K hK => ?_)
                go_simp
                refine hK.out _ _ trivial (fun hS => ?_)
                clear hK
                try simp only [Act.put, List.setIfInBounds_toArray, List.set_cons_zero, List.set_cons_succ]
                refine wpAnyH_takeD (i := 4) (v := ?_) rfl (by kernel_rfl) (by kernel_rfl) (by kernel_rfl) (fun _ _ _ h => h) (Or.inl ⟨by kernel_rfl, ?_⟩) hS ?_
                rotate_left 1
                · (intro w' hSw; (try dsimp only at hSw); go_simp; try (with_reducible rfl))
                try simp only [Act.put, List.setIfInBounds_toArray, List.set_cons_zero, List.set_cons_succ]
                refine wpAnyH_takeD (i := 5) (v := ?_) rfl (by kernel_rfl) (by kernel_rfl) (by kernel_rfl) (fun _ _ _ h => h) (Or.inl ⟨by kernel_rfl, ?_⟩) hS ?_
                rotate_left 1
                · (intro w' hSw; (try dsimp only at hSw); go_simp; try (with_reducible rfl))
                try simp only [Act.put, List.setIfInBounds_toArray, List.set_cons_zero, List.set_cons_succ]
                refine wpAnyH_done (by kernel_rfl) ?_ _
                go_wp2_with fail
                go_meet
                exact ⟨_, _, rfl, rfl, (two_made w2 N (by omega)).2⟩
            case rest =>
              obtain ⟨ga, gb, rfl, rfl, hT⟩ := hcut
              have HT0 := Lib.hid hT
              have HAR := Lib.hid (And.intro hn2p (And.intro hkf hn0))
              clear hT hci hc0 hc1
              clear hmk hlN2 hrn hnrf hne0 hlp
              clear hn1 hn2 hpos hn2p hk hn0 hkf
              go_wp2
              go_loopw [13] (fun jv wr => ∃ j : Nat, j ≤ N ∧ jv = .int .i64 j ∧ TwB w2 wr ga gb N (upC N false (fun i => FA 11 (-1) ra i) j) (upC N false (fun i => FB 11 (-1) ra [] i) j)) (fun jv _ => N - (intOf jv).toNat)
              case atStart => exact ⟨0, by omega, rfl, by rw [upC_zero, upC_zero]; exact HT0.out⟩
              case round =>
                clear HT0
                obtain ⟨j, hj, rfl, hT⟩ := hrel
                by_cases hjN : j < N
                · have hbx : Below wF.heap.size wF wr := hbF2.trans (hT.bel.mono hbF2.size)
                  obtain ⟨Al, cl, hcl0, hsl0⟩ := HG.out.cellAt HRA.out
                  have hcl := (hbx.cell (p := ⟨g, lN, none⟩) hgF).trans hcl0
                  rw [haN] at hcl hsl0
                  obtain ⟨bl, ol, rfl, hblB, hcx⟩ := (hsl0.below hbx (Nat.le_refl _)).rd.at_ (bcells_at (l := ra) (i := j) (by omega))
                  obtain ⟨⟨hca, hfa⟩, ⟨hcb, hfb⟩⟩ := hT.cell hjN
                  have hpA := hT.putA j (FA 11 (-1) ra j)
                  rw [show (upC N false (fun i => FA 11 (-1) ra i) j).set j (FA 11 (-1) ra j) = upC N false (fun i => FA 11 (-1) ra i) (j + 1) from upC_step (F := (fun i => FA 11 (-1) ra i))] at hpA
                  have hpB := hpA.putB j (FB 11 (-1) ra [] j)
                  rw [show (upC N false (fun i => FB 11 (-1) ra [] i) j).set j (FB 11 (-1) ra [] j) = upC N false (fun i => FB 11 (-1) ra [] i) (j + 1) from upC_step (F := (fun i => FB 11 (-1) ra [] i))] at hpB
                  have hne := hT.ne
                  have hne' : gb ≠ ga := fun e => hT.ne e.symm
                  generalize (upC N false (fun i => FA 11 (-1) ra i) j).getD j false = ua at *
                  generalize (upC N false (fun i => FB 11 (-1) ra [] i) j).getD j false = ub at *
                  have hgx : g < wr.heap.size := Nat.lt_of_lt_of_le hgF hbx.size
                  have hlga := (hT.a.lt ga rfl).1
                  have hlgb := (hT.b.lt gb rfl).1
                  have hg2 := Nat.lt_of_lt_of_le hgF hbF2.size
                  have hF2 := hbF2.size
                  have hgne : g ≠ ga := by omega
                  have hlne : bl ≠ ga := by omega
                  have p1 := fun v => (set_past (w := wr) (a := ⟨ga, j, none⟩) (b := ⟨g, lN, none⟩) hgne v).trans hcl
                  have p3 := fun v => (set_past (w := wr) (a := ⟨ga, j, none⟩) (b := ⟨gb, j, none⟩) hne' v).trans hcb
                  clear hT hsl0 hpA hcl0
                  generalize hx : ra.getD j false = x at *
                  cases x 
                  all_goals
                    have p2 := fun v => (set_past (w := wr) (a := ⟨ga, j, none⟩) (b := ⟨bl, ol + j, none⟩) hlne v).trans hcx
                    have HP := Lib.hid hpB
                    have HX := Lib.hid hx
                    clear hpB hx
                    go_wp2
                    go_roundw
                    case rel => exact ⟨j + 1, by omega, by go_num, by have hp := HP.out; rw [fa_neg, fb_neg, HX.out] at hp; exact hp⟩
                    case measure => simp [intOf]; omega
                · have hjn : j = N := by omega
                  subst hjn
                  rw [upC_end, upC_end] at hT
                  have hT' : TwB w2 wr ga gb j (lawA 11 (-1) j ra) (lawB 11 (-1) j ra []) := hT
                  have HT0 := Lib.hid hT'
                  clear hT hT'
                  have HLE : Hid (∀ (i : Nat), i < j → ∀ (W : World), TwB w2 W ga gb j (lawA 11 (-1) j ra) (lawB 11 (-1) j ra []) → Calls Try.prog 48 #[.slice (some ⟨ga, 0, none⟩) j j, .slice (some ⟨gb, 0, none⟩) j j, .agg #[.slice A1 n1 c1, .slice A2 n2 c2], .int .i64 (i : Int)] W (Tru W (rk.getD i false != false))) := Lib.hid (by
                    intro i hi W hT
                    have h0 : j ≤ 60000 := by omega
                    have h1 : (lawA 11 (-1) j ra).length = j := by unfold lawA; rw [List.length_map, List.length_range]
                    have h2 : (lawB 11 (-1) j ra []).length = j := by unfold lawB; rw [List.length_map, List.length_range]
                    have h3 := HLS.out (some ⟨ga, 0, none⟩) (some ⟨gb, 0, none⟩) j j j j (lawA 11 (-1) j ra) (lawB 11 (-1) j ra []) i W W.heap.size rfl rfl h1 h2 (sl_own hT.a) (sl_own hT.b) (Nat.le_refl _) h0 HAR.out.1 hi
                    rw [← HLAW.out i hi] at h3
                    exact h3)
                  go_wp2
                  go_loopw [15] (fun iv wr => ∃ i : Nat, i ≤ j ∧ iv = .int .i64 i ∧ TwB w2 wr ga gb j (lawA 11 (-1) j ra) (lawB 11 (-1) j ra [])) (fun iv _ => j - (intOf iv).toNat)
                  case atStart => exact ⟨0, by omega, rfl, HT0.out⟩
                  case round =>
                    clear HT0
                    obtain ⟨i, hi, rfl, hTy⟩ := hrel
                    have hby : Below wF.heap.size wF wr := hbF2.trans (hTy.bel.mono hbF2.size)
                    by_cases hij : i < j
                    · obtain ⟨Ai, ci, hci, hsi⟩ := (HG.out.below hby).cellAt HRK.out
                      rw [hrkN] at hci hsi
                      obtain ⟨bi, oi, rfl, hbi, hcx⟩ := hsi.rd.at_ (bcells_at (l := rk) (i := i) (by omega))
                      have y0 := (hby.cell (p := ⟨w.heap.size, 0, none⟩) hqF).trans q0
                      have y1 := (hby.cell (p := ⟨w.heap.size, 1, none⟩) hqF).trans q1
                      have hgy : g < wr.heap.size := Nat.lt_of_lt_of_le hgF hby.size
                      have hqy : w.heap.size < wr.heap.size := Nat.lt_of_lt_of_le hqF hby.size
                      have hLE := HLE.out i hij wr.drew hTy.drew
                      generalize rk.getD i false = x at *
                      have HTY := Lib.hid hTy
                      clear hTy hsi
                      cases x
                      all_goals
                        have HLC := Lib.hid hLE
                        clear hLE
                        go_wp2_with fail
                        refine wp_region_held_drew (S := fun w' => (w'.cell? ⟨g, k, none⟩ = wr.cell? ⟨g, k, none⟩ ∧ w'.cell? ⟨bi, oi + i, none⟩ = wr.cell? ⟨bi, oi + i, none⟩) ∧ w'.cell? ⟨w.heap.size, 0, none⟩ = some (.slice A1 n1 c1) ∧ w'.cell? ⟨w.heap.size, 1, none⟩ = some (.slice A2 n2 c2)) (by kernel_rfl) ⟨⟨rfl, rfl⟩, y0, y1⟩ (fun hS => ?_)
                        refine wpAnyH_takeD (i := 0) (v := ?_) rfl (by kernel_rfl) (by kernel_rfl) (by kernel_rfl) (fun _ _ _ h => h) (Or.inl ⟨by kernel_rfl, ?_⟩) hS ?_
                        rotate_left 1
                        · (intro w' hSw; (try dsimp only at hSw); go_simp; try (with_reducible rfl))
                        try simp only [Act.put, List.setIfInBounds_toArray, List.set_cons_zero, List.set_cons_succ]
                        refine wpAnyH_takeD (i := 1) (v := ?_) rfl (by kernel_rfl) (by kernel_rfl) (by kernel_rfl) (fun _ _ _ h => h) (Or.inl ⟨by kernel_rfl, ?_⟩) hS ?_
                        rotate_left 1
                        · (intro w' hSw; (try dsimp only at hSw); go_simp; try (with_reducible rfl))
                        try simp only [Act.put, List.setIfInBounds_toArray, List.set_cons_zero, List.set_cons_succ]
                        refine wpAnyH_takeD (i := 2) (v := ?_) rfl (by kernel_rfl) (by kernel_rfl) (by kernel_rfl) (fun _ _ _ h => h) (Or.inl ⟨by kernel_rfl, ?_⟩) hS ?_
                        rotate_left 1
                        · (intro w' hSw; (try dsimp only at hSw); go_simp; try (with_reducible rfl))
                        try simp only [Act.put, List.setIfInBounds_toArray, List.set_cons_zero, List.set_cons_succ]
                        refine wpAnyH_takeD (i := 3) (v := ?_) rfl (by kernel_rfl) (by kernel_rfl) (by kernel_rfl) (fun _ _ _ h => h) (Or.inl ⟨by kernel_rfl, ?_⟩) hS ?_
                        rotate_left 1
                        · (intro w' hSw; (try dsimp only at hSw); go_simp; try (with_reducible rfl))
                        try simp only [Act.put, List.setIfInBounds_toArray, List.set_cons_zero, List.set_cons_succ]
                        refine wpAnyH_takeD (i := 4) (v := ?_) rfl (by kernel_rfl) (by kernel_rfl) (by kernel_rfl) (fun _ _ _ h => h) (Or.inl ⟨by kernel_rfl, ?_⟩) hS ?_
                        rotate_left 1
                        · (intro w' hSw; (try dsimp only at hSw); go_simp; try (with_reducible rfl))
                        try simp only [Act.put, List.setIfInBounds_toArray, List.set_cons_zero, List.set_cons_succ]
                        refine wpAnyH_takeD (i := 5) (v := ?_) rfl (by kernel_rfl) (by kernel_rfl) (by kernel_rfl) (fun _ _ _ h => h) (Or.inl ⟨by kernel_rfl, ?_⟩) hS ?_
                        rotate_left 1
                        · (intro w' hSw; (try dsimp only at hSw); go_simp; try (with_reducible rfl))
                        try simp only [Act.put, List.setIfInBounds_toArray, List.set_cons_zero, List.set_cons_succ]
                        refine wpAnyH_takeD (i := 6) (v := ?_) rfl (by kernel_rfl) (by kernel_rfl) (by kernel_rfl) (fun _ _ _ h => h) (Or.inl ⟨by kernel_rfl, ?_⟩) hS ?_
                        rotate_left 1
                        · (intro w' hSw; (try dsimp only at hSw); go_simp; try (with_reducible rfl))
                        try simp only [Act.put, List.setIfInBounds_toArray, List.set_cons_zero, List.set_cons_succ]
                        refine wpAnyH_takeD (i := 7) (v := ?_) rfl (by kernel_rfl) (by kernel_rfl) (by kernel_rfl) (fun _ _ _ h => h) (Or.inl ⟨by kernel_rfl, ?_⟩) hS ?_
                        rotate_left 1
                        · (intro w' hSw; (try dsimp only at hSw); go_simp; try (with_reducible rfl))
                        try simp only [Act.put, List.setIfInBounds_toArray, List.set_cons_zero, List.set_cons_succ]
                        refine wpAnyH_takeD (i := 8) (v := ?_) rfl (by kernel_rfl) (by kernel_rfl) (by kernel_rfl) (fun _ _ _ h => h) (Or.inl ⟨by kernel_rfl, ?_⟩) hS ?_
                        rotate_left 1
                        · (intro w' hSw; (try dsimp only at hSw); go_simp; try (with_reducible rfl))
                        try simp only [Act.put, List.setIfInBounds_toArray, List.set_cons_zero, List.set_cons_succ]
                        refine wpAnyH_takeD (i := 9) (v := ?_) rfl (by kernel_rfl) (by kernel_rfl) (by kernel_rfl) (fun _ _ _ h => h) (Or.inl ⟨by kernel_rfl, ?_⟩) hS ?_
                        rotate_left 1
                        · (intro w' hSw; (try dsimp only at hSw); go_simp; try (with_reducible rfl))
                        try simp only [Act.put, List.setIfInBounds_toArray, List.set_cons_zero, List.set_cons_succ]
                        refine wpAnyH_takeD (i := 10) (v := ?_) rfl (by kernel_rfl) (by kernel_rfl) (by kernel_rfl) (fun _ _ _ h => h) (Or.inl ⟨by kernel_rfl, ?_⟩) hS ?_
                        rotate_left 1
                        · (intro w' hSw; (try dsimp only at hSw); go_simp; try (with_reducible rfl))
                        try simp only [Act.put, List.setIfInBounds_toArray, List.set_cons_zero, List.set_cons_succ]
                        refine wpAnyH_takeD (i := 11) (v := ?_) rfl (by kernel_rfl) (by kernel_rfl) (by kernel_rfl) (fun _ _ _ h => h) (Or.inl ⟨by kernel_rfl, ?_⟩) hS ?_
                        rotate_left 1
                        · (intro w' hSw; (try dsimp only at hSw); go_simp; try (with_reducible rfl))
                        try simp only [Act.put, List.setIfInBounds_toArray, List.set_cons_zero, List.set_cons_succ]
                        refine wpAnyH_takeD (i := 12) (v := ?_) rfl (by kernel_rfl) (by kernel_rfl) (by kernel_rfl) (fun _ _ _ h => h) (Or.inl ⟨by kernel_rfl, ?_⟩) hS ?_
                        rotate_left 1
                        · (intro w' hSw; (try dsimp only at hSw); go_simp; try (with_reducible rfl))
                        try simp only [Act.put, List.setIfInBounds_toArray, List.set_cons_zero, List.set_cons_succ]
                        refine wpAnyH_takeD (i := 13) (v := ?_) rfl (by kernel_rfl) (by kernel_rfl) (by kernel_rfl) (fun _ _ _ h => h) (Or.inl ⟨by kernel_rfl, ?_⟩) hS ?_
                        rotate_left 1
                        · (intro w' hSw; (try dsimp only at hSw); go_simp; try (with_reducible rfl))
                        try simp only [Act.put, List.setIfInBounds_toArray, List.set_cons_zero, List.set_cons_succ]
                        refine wpAnyH_takeD (i := 14) (v := ?_) rfl (by kernel_rfl) (by kernel_rfl) (by kernel_rfl) (fun _ _ _ h => h) (Or.inl ⟨by kernel_rfl, ?_⟩) hS ?_
                        rotate_left 1
                        · (intro w' hSw; (try dsimp only at hSw); go_simp; try (with_reducible rfl))
                        try simp only [Act.put, List.setIfInBounds_toArray, List.set_cons_zero, List.set_cons_succ]
                        refine wpAnyH_takeD (i := 15) (v := ?_) rfl (by kernel_rfl) (by kernel_rfl) (by kernel_rfl) (fun _ _ _ h => h) (Or.inl ⟨by kernel_rfl, ?_⟩) hS ?_
                        rotate_left 1
                        · (intro w' hSw; (try dsimp only at hSw); go_simp; try (with_reducible rfl))
                        try simp only [Act.put, List.setIfInBounds_toArray, List.set_cons_zero, List.set_cons_succ]
                        refine wpAnyH_takeD (i := 16) (v := ?_) rfl (by kernel_rfl) (by kernel_rfl) (by kernel_rfl) (fun _ _ _ h => h) (Or.inl ⟨by kernel_rfl, ?_⟩) hS ?_
                        rotate_left 1
                        · (intro w' hSw; (try dsimp only at hSw); go_simp; try (with_reducible rfl))
                        try simp only [Act.put, List.setIfInBounds_toArray, List.set_cons_zero, List.set_cons_succ]
                        refine wpAnyH_takeD (i := 17) (v := ?_) rfl (by kernel_rfl) (by kernel_rfl) (by kernel_rfl) (fun _ _ _ h => h) (Or.inl ⟨by kernel_rfl, ?_⟩) hS ?_
                        rotate_left 1
                        · (intro w' hSw; (try dsimp only at hSw); go_simp; try (with_reducible rfl))
                        try simp only [Act.put, List.setIfInBounds_toArray, List.set_cons_zero, List.set_cons_succ]
                        refine wpAnyH_oneD (i := 18) rfl (by kernel_rfl) (fun K hK => ?_)
                        go_simp
                        refine Calls.mono HLC.out ?_
                        rintro e w8 ⟨rfl, hb8'⟩
                        have hb8 : Below wr.heap.size wr w8 := below_undrew hb8'
                        have m0 := (hb8.cell (p := ⟨g, k, none⟩) hgy)
                        have m1 := (hb8.cell (p := ⟨bi, oi + i, none⟩) hbi)
                        have m2 := (hb8.cell (p := ⟨w.heap.size, 0, none⟩) hqy).trans y0
                        have m3 := (hb8.cell (p := ⟨w.heap.size, 1, none⟩) hqy).trans y1
                        go_wp2_with fail
                        refine hK.out _ _ ⟨⟨m0, m1⟩, m2, m3⟩ (fun hS => ?_)
                        clear hK
                        try simp only [Act.put, List.setIfInBounds_toArray, List.set_cons_zero, List.set_cons_succ]
                        refine wpAnyH_takeD (i := 19) (v := ?_) rfl (by kernel_rfl) (by kernel_rfl) (by kernel_rfl) (fun _ _ _ h => h) (Or.inl ⟨by kernel_rfl, ?_⟩) hS ?_
                        rotate_left 1
                        · (intro w' hSw; (try dsimp only at hSw); go_simp; try (with_reducible rfl))
                        try simp only [Act.put, List.setIfInBounds_toArray, List.set_cons_zero, List.set_cons_succ]
                        refine wpAnyH_done (by kernel_rfl) ?_ _
                        go_wp2
                        go_roundw
                        case rel => exact ⟨i + 1, by omega, by go_num, HTY.out.below hb8⟩
                        case measure => simp [intOf]; omega
                    · have hijn : i = j := by omega
                      subst hijn
                      have hkf := HAR.out.2.1
                      have hn0 := HAR.out.2.2
                      go_wp2
                      go_roundw
                      case rel => exact ⟨k + 1, by omega, by go_num, hby⟩
                      case measure => simp [intOf]; omega
          · as_aux_lemma =>
            have hr1 : r = -1 := hone (by decide)
            subst hr1
            have hrn : ¬ ((NR : Int) ≤ -1) := by omega
            rw [show getR R (-1) = [] from rfl] at hlaw
            simp only at hlaw
            have HLAW := Lib.hid hlaw
            clear hlaw hone htwo r0 r1
            go_wp2_with fail
            go_cut [11, 12] (fun pa pb wF => MCut w2 N pa pb wF)
            case first =>
              refine wp_region_held_drew (S := fun w' => True) (by kernel_rfl) trivial (fun hS => ?_)
              refine wpAnyH_takeD (i := 0) (v := ?_) rfl (by kernel_rfl) (by kernel_rfl) (by kernel_rfl) (fun _ _ _ h => h) (Or.inl ⟨by kernel_rfl, ?_⟩) hS ?_
              rotate_left 1
              · (intro w' hSw; (try dsimp only at hSw); go_simp; try (with_reducible rfl))
              try simp only [Act.put, List.setIfInBounds_toArray, List.set_cons_zero, List.set_cons_succ]
              refine wpAnyH_takeD (i := 2) (v := ?_) rfl (by kernel_rfl) (by kernel_rfl) (by kernel_rfl) (fun _ _ _ h => h) (Or.inl ⟨by kernel_rfl, ?_⟩) hS ?_
              rotate_left 1
              · (intro w' hSw; (try dsimp only at hSw); go_simp; try (with_reducible rfl))
              try simp only [Act.put, List.setIfInBounds_toArray, List.set_cons_zero, List.set_cons_succ]
              refine wpAnyH_ready (rs := [1, 3]) (by kernel_rfl) (by simp) ?_
              refine (allReadyH_consD (i := 1) rfl (fun K hK => ?_) (allReadyH_consD (i := 3) rfl (fun K hK => ?_) AllReadyH.nil))
              · skip
                go_simp
                refine hK.out _ _ trivial (fun hS => ?_)
                clear hK
                try simp only [Act.put, List.setIfInBounds_toArray, List.set_cons_zero, List.set_cons_succ]
                refine wpAnyH_takeD (i := 4) (v := ?_) rfl (by kernel_rfl) (by kernel_rfl) (by kernel_rfl) (fun _ _ _ h => h) (Or.inl ⟨by kernel_rfl, ?_⟩) hS ?_
                rotate_left 1
                · (intro w' hSw; (try dsimp only at hSw); go_simp; try (with_reducible rfl))
                try simp only [Act.put, List.setIfInBounds_toArray, List.set_cons_zero, List.set_cons_succ]
                refine wpAnyH_oneD (i := 3) rfl (by kernel_rfl) (fun K hK => ?_)
                go_simp
                refine hK.out _ _ trivial (fun hS => ?_)
                clear hK
                try simp only [Act.put, List.setIfInBounds_toArray, List.set_cons_zero, List.set_cons_succ]
                refine wpAnyH_takeD (i := 5) (v := ?_) rfl (by kernel_rfl) (by kernel_rfl) (by kernel_rfl) (fun _ _ _ h => h) (Or.inl ⟨by kernel_rfl, ?_⟩) hS ?_
                rotate_left 1
                · (intro w' hSw; (try dsimp only at hSw); go_simp; try (with_reducible rfl))
                try simp only [Act.put, List.setIfInBounds_toArray, List.set_cons_zero, List.set_cons_succ]
                refine wpAnyH_done (by kernel_rfl) ?_ _
                go_wp2_with fail
                go_meet
                exact ⟨_, _, rfl, rfl, (two_made w2 N (by omega)).1⟩
              · skip
                go_simp
                refine hK.out _ _ trivial (fun hS => ?_)
                clear hK
                try simp only [Act.put, List.setIfInBounds_toArray, List.set_cons_zero, List.set_cons_succ]
                refine wpAnyH_oneD (i := 1) rfl (by kernel_rfl) (fun K hK => ?_)
                go_simp
                refine hK.out _ _ trivial (fun hS => ?_)
                clear hK
                try simp only [Act.put, List.setIfInBounds_toArray, List.set_cons_zero, List.set_cons_succ]
                refine wpAnyH_takeD (i := 4) (v := ?_) rfl (by kernel_rfl) (by kernel_rfl) (by kernel_rfl) (fun _ _ _ h => h) (Or.inl ⟨by kernel_rfl, ?_⟩) hS ?_
                rotate_left 1
                · (intro w' hSw; (try dsimp only at hSw); go_simp; try (with_reducible rfl))
                try simp only [Act.put, List.setIfInBounds_toArray, List.set_cons_zero, List.set_cons_succ]
                refine wpAnyH_takeD (i := 5) (v := ?_) rfl (by kernel_rfl) (by kernel_rfl) (by kernel_rfl) (fun _ _ _ h => h) (Or.inl ⟨by kernel_rfl, ?_⟩) hS ?_
                rotate_left 1
                · (intro w' hSw; (try dsimp only at hSw); go_simp; try (with_reducible rfl))
                try simp only [Act.put, List.setIfInBounds_toArray, List.set_cons_zero, List.set_cons_succ]
                refine wpAnyH_done (by kernel_rfl) ?_ _
                go_wp2_with fail
                go_meet
                exact ⟨_, _, rfl, rfl, (two_made w2 N (by omega)).2⟩
            case rest =>
              obtain ⟨ga, gb, rfl, rfl, hT⟩ := hcut
              have HT0 := Lib.hid hT
              have HAR := Lib.hid (And.intro hn2p (And.intro hkf hn0))
              clear hT hci hc0 hc1
              clear hmk hlN2 hrn hnrf hne0 hlp
              clear hn1 hn2 hpos hn2p hk hn0 hkf
              go_wp2
              go_loopw [13] (fun jv wr => ∃ j : Nat, j ≤ N ∧ jv = .int .i64 j ∧ TwB w2 wr ga gb N (upC N false (fun i => FA 12 (-1) ra i) j) (upC N false (fun i => FB 12 (-1) ra [] i) j)) (fun jv _ => N - (intOf jv).toNat)
              case atStart => exact ⟨0, by omega, rfl, by rw [upC_zero, upC_zero]; exact HT0.out⟩
              case round =>
                clear HT0
                obtain ⟨j, hj, rfl, hT⟩ := hrel
                by_cases hjN : j < N
                · have hbx : Below wF.heap.size wF wr := hbF2.trans (hT.bel.mono hbF2.size)
                  obtain ⟨Al, cl, hcl0, hsl0⟩ := HG.out.cellAt HRA.out
                  have hcl := (hbx.cell (p := ⟨g, lN, none⟩) hgF).trans hcl0
                  rw [haN] at hcl hsl0
                  obtain ⟨bl, ol, rfl, hblB, hcx⟩ := (hsl0.below hbx (Nat.le_refl _)).rd.at_ (bcells_at (l := ra) (i := j) (by omega))
                  obtain ⟨⟨hca, hfa⟩, ⟨hcb, hfb⟩⟩ := hT.cell hjN
                  have hpA := hT.putA j (FA 12 (-1) ra j)
                  rw [show (upC N false (fun i => FA 12 (-1) ra i) j).set j (FA 12 (-1) ra j) = upC N false (fun i => FA 12 (-1) ra i) (j + 1) from upC_step (F := (fun i => FA 12 (-1) ra i))] at hpA
                  have hpB := hpA.putB j (FB 12 (-1) ra [] j)
                  rw [show (upC N false (fun i => FB 12 (-1) ra [] i) j).set j (FB 12 (-1) ra [] j) = upC N false (fun i => FB 12 (-1) ra [] i) (j + 1) from upC_step (F := (fun i => FB 12 (-1) ra [] i))] at hpB
                  have hne := hT.ne
                  have hne' : gb ≠ ga := fun e => hT.ne e.symm
                  generalize (upC N false (fun i => FA 12 (-1) ra i) j).getD j false = ua at *
                  generalize (upC N false (fun i => FB 12 (-1) ra [] i) j).getD j false = ub at *
                  have hgx : g < wr.heap.size := Nat.lt_of_lt_of_le hgF hbx.size
                  have hlga := (hT.a.lt ga rfl).1
                  have hlgb := (hT.b.lt gb rfl).1
                  have hg2 := Nat.lt_of_lt_of_le hgF hbF2.size
                  have hF2 := hbF2.size
                  have hgne : g ≠ ga := by omega
                  have hlne : bl ≠ ga := by omega
                  have p1 := fun v => (set_past (w := wr) (a := ⟨ga, j, none⟩) (b := ⟨g, lN, none⟩) hgne v).trans hcl
                  have p3 := fun v => (set_past (w := wr) (a := ⟨ga, j, none⟩) (b := ⟨gb, j, none⟩) hne' v).trans hcb
                  clear hT hsl0 hpA hcl0
                  generalize hx : ra.getD j false = x at *
                  cases x 
                  all_goals
                    have p2 := fun v => (set_past (w := wr) (a := ⟨ga, j, none⟩) (b := ⟨bl, ol + j, none⟩) hlne v).trans hcx
                    have HP := Lib.hid hpB
                    have HX := Lib.hid hx
                    clear hpB hx
                    go_wp2
                    go_roundw
                    case rel => exact ⟨j + 1, by omega, by go_num, by have hp := HP.out; rw [fa_neg, fb_neg, HX.out] at hp; exact hp⟩
                    case measure => simp [intOf]; omega
                · have hjn : j = N := by omega
                  subst hjn
                  rw [upC_end, upC_end] at hT
                  have hT' : TwB w2 wr ga gb j (lawA 12 (-1) j ra) (lawB 12 (-1) j ra []) := hT
                  have HT0 := Lib.hid hT'
                  clear hT hT'
                  have HLE : Hid (∀ (i : Nat), i < j → ∀ (W : World), TwB w2 W ga gb j (lawA 12 (-1) j ra) (lawB 12 (-1) j ra []) → Calls Try.prog 48 #[.slice (some ⟨ga, 0, none⟩) j j, .slice (some ⟨gb, 0, none⟩) j j, .agg #[.slice A1 n1 c1, .slice A2 n2 c2], .int .i64 (i : Int)] W (Tru W (rk.getD i false != true))) := Lib.hid (by
                    intro i hi W hT
                    have h0 : j ≤ 60000 := by omega
                    have h1 : (lawA 12 (-1) j ra).length = j := by unfold lawA; rw [List.length_map, List.length_range]
                    have h2 : (lawB 12 (-1) j ra []).length = j := by unfold lawB; rw [List.length_map, List.length_range]
                    have h3 := HLS.out (some ⟨ga, 0, none⟩) (some ⟨gb, 0, none⟩) j j j j (lawA 12 (-1) j ra) (lawB 12 (-1) j ra []) i W W.heap.size rfl rfl h1 h2 (sl_own hT.a) (sl_own hT.b) (Nat.le_refl _) h0 HAR.out.1 hi
                    rw [← HLAW.out i hi] at h3
                    exact h3)
                  go_wp2
                  go_loopw [15] (fun iv wr => ∃ i : Nat, i ≤ j ∧ iv = .int .i64 i ∧ TwB w2 wr ga gb j (lawA 12 (-1) j ra) (lawB 12 (-1) j ra [])) (fun iv _ => j - (intOf iv).toNat)
                  case atStart => exact ⟨0, by omega, rfl, HT0.out⟩
                  case round =>
                    clear HT0
                    obtain ⟨i, hi, rfl, hTy⟩ := hrel
                    have hby : Below wF.heap.size wF wr := hbF2.trans (hTy.bel.mono hbF2.size)
                    by_cases hij : i < j
                    · obtain ⟨Ai, ci, hci, hsi⟩ := (HG.out.below hby).cellAt HRK.out
                      rw [hrkN] at hci hsi
                      obtain ⟨bi, oi, rfl, hbi, hcx⟩ := hsi.rd.at_ (bcells_at (l := rk) (i := i) (by omega))
                      have y0 := (hby.cell (p := ⟨w.heap.size, 0, none⟩) hqF).trans q0
                      have y1 := (hby.cell (p := ⟨w.heap.size, 1, none⟩) hqF).trans q1
                      have hgy : g < wr.heap.size := Nat.lt_of_lt_of_le hgF hby.size
                      have hqy : w.heap.size < wr.heap.size := Nat.lt_of_lt_of_le hqF hby.size
                      have hLE := HLE.out i hij wr.drew hTy.drew
                      generalize rk.getD i false = x at *
                      have HTY := Lib.hid hTy
                      clear hTy hsi
                      cases x
                      all_goals
                        have HLC := Lib.hid hLE
                        clear hLE
                        go_wp2_with fail
                        refine wp_region_held_drew (S := fun w' => (w'.cell? ⟨g, k, none⟩ = wr.cell? ⟨g, k, none⟩ ∧ w'.cell? ⟨bi, oi + i, none⟩ = wr.cell? ⟨bi, oi + i, none⟩) ∧ w'.cell? ⟨w.heap.size, 0, none⟩ = some (.slice A1 n1 c1) ∧ w'.cell? ⟨w.heap.size, 1, none⟩ = some (.slice A2 n2 c2)) (by kernel_rfl) ⟨⟨rfl, rfl⟩, y0, y1⟩ (fun hS => ?_)
                        refine wpAnyH_takeD (i := 0) (v := ?_) rfl (by kernel_rfl) (by kernel_rfl) (by kernel_rfl) (fun _ _ _ h => h) (Or.inl ⟨by kernel_rfl, ?_⟩) hS ?_
                        rotate_left 1
                        · (intro w' hSw; (try dsimp only at hSw); go_simp; try (with_reducible rfl))
                        try simp only [Act.put, List.setIfInBounds_toArray, List.set_cons_zero, List.set_cons_succ]
                        refine wpAnyH_takeD (i := 1) (v := ?_) rfl (by kernel_rfl) (by kernel_rfl) (by kernel_rfl) (fun _ _ _ h => h) (Or.inl ⟨by kernel_rfl, ?_⟩) hS ?_
                        rotate_left 1
                        · (intro w' hSw; (try dsimp only at hSw); go_simp; try (with_reducible rfl))
                        try simp only [Act.put, List.setIfInBounds_toArray, List.set_cons_zero, List.set_cons_succ]
                        refine wpAnyH_takeD (i := 2) (v := ?_) rfl (by kernel_rfl) (by kernel_rfl) (by kernel_rfl) (fun _ _ _ h => h) (Or.inl ⟨by kernel_rfl, ?_⟩) hS ?_
                        rotate_left 1
                        · (intro w' hSw; (try dsimp only at hSw); go_simp; try (with_reducible rfl))
                        try simp only [Act.put, List.setIfInBounds_toArray, List.set_cons_zero, List.set_cons_succ]
                        refine wpAnyH_takeD (i := 3) (v := ?_) rfl (by kernel_rfl) (by kernel_rfl) (by kernel_rfl) (fun _ _ _ h => h) (Or.inl ⟨by kernel_rfl, ?_⟩) hS ?_
                        rotate_left 1
                        · (intro w' hSw; (try dsimp only at hSw); go_simp; try (with_reducible rfl))
                        try simp only [Act.put, List.setIfInBounds_toArray, List.set_cons_zero, List.set_cons_succ]
                        refine wpAnyH_takeD (i := 4) (v := ?_) rfl (by kernel_rfl) (by kernel_rfl) (by kernel_rfl) (fun _ _ _ h => h) (Or.inl ⟨by kernel_rfl, ?_⟩) hS ?_
                        rotate_left 1
                        · (intro w' hSw; (try dsimp only at hSw); go_simp; try (with_reducible rfl))
                        try simp only [Act.put, List.setIfInBounds_toArray, List.set_cons_zero, List.set_cons_succ]
                        refine wpAnyH_takeD (i := 5) (v := ?_) rfl (by kernel_rfl) (by kernel_rfl) (by kernel_rfl) (fun _ _ _ h => h) (Or.inl ⟨by kernel_rfl, ?_⟩) hS ?_
                        rotate_left 1
                        · (intro w' hSw; (try dsimp only at hSw); go_simp; try (with_reducible rfl))
                        try simp only [Act.put, List.setIfInBounds_toArray, List.set_cons_zero, List.set_cons_succ]
                        refine wpAnyH_takeD (i := 6) (v := ?_) rfl (by kernel_rfl) (by kernel_rfl) (by kernel_rfl) (fun _ _ _ h => h) (Or.inl ⟨by kernel_rfl, ?_⟩) hS ?_
                        rotate_left 1
                        · (intro w' hSw; (try dsimp only at hSw); go_simp; try (with_reducible rfl))
                        try simp only [Act.put, List.setIfInBounds_toArray, List.set_cons_zero, List.set_cons_succ]
                        refine wpAnyH_takeD (i := 7) (v := ?_) rfl (by kernel_rfl) (by kernel_rfl) (by kernel_rfl) (fun _ _ _ h => h) (Or.inl ⟨by kernel_rfl, ?_⟩) hS ?_
                        rotate_left 1
                        · (intro w' hSw; (try dsimp only at hSw); go_simp; try (with_reducible rfl))
                        try simp only [Act.put, List.setIfInBounds_toArray, List.set_cons_zero, List.set_cons_succ]
                        refine wpAnyH_takeD (i := 8) (v := ?_) rfl (by kernel_rfl) (by kernel_rfl) (by kernel_rfl) (fun _ _ _ h => h) (Or.inl ⟨by kernel_rfl, ?_⟩) hS ?_
                        rotate_left 1
                        · (intro w' hSw; (try dsimp only at hSw); go_simp; try (with_reducible rfl))
                        try simp only [Act.put, List.setIfInBounds_toArray, List.set_cons_zero, List.set_cons_succ]
                        refine wpAnyH_takeD (i := 9) (v := ?_) rfl (by kernel_rfl) (by kernel_rfl) (by kernel_rfl) (fun _ _ _ h => h) (Or.inl ⟨by kernel_rfl, ?_⟩) hS ?_
                        rotate_left 1
                        · (intro w' hSw; (try dsimp only at hSw); go_simp; try (with_reducible rfl))
                        try simp only [Act.put, List.setIfInBounds_toArray, List.set_cons_zero, List.set_cons_succ]
                        refine wpAnyH_takeD (i := 10) (v := ?_) rfl (by kernel_rfl) (by kernel_rfl) (by kernel_rfl) (fun _ _ _ h => h) (Or.inl ⟨by kernel_rfl, ?_⟩) hS ?_
                        rotate_left 1
                        · (intro w' hSw; (try dsimp only at hSw); go_simp; try (with_reducible rfl))
                        try simp only [Act.put, List.setIfInBounds_toArray, List.set_cons_zero, List.set_cons_succ]
                        refine wpAnyH_takeD (i := 11) (v := ?_) rfl (by kernel_rfl) (by kernel_rfl) (by kernel_rfl) (fun _ _ _ h => h) (Or.inl ⟨by kernel_rfl, ?_⟩) hS ?_
                        rotate_left 1
                        · (intro w' hSw; (try dsimp only at hSw); go_simp; try (with_reducible rfl))
                        try simp only [Act.put, List.setIfInBounds_toArray, List.set_cons_zero, List.set_cons_succ]
                        refine wpAnyH_takeD (i := 12) (v := ?_) rfl (by kernel_rfl) (by kernel_rfl) (by kernel_rfl) (fun _ _ _ h => h) (Or.inl ⟨by kernel_rfl, ?_⟩) hS ?_
                        rotate_left 1
                        · (intro w' hSw; (try dsimp only at hSw); go_simp; try (with_reducible rfl))
                        try simp only [Act.put, List.setIfInBounds_toArray, List.set_cons_zero, List.set_cons_succ]
                        refine wpAnyH_takeD (i := 13) (v := ?_) rfl (by kernel_rfl) (by kernel_rfl) (by kernel_rfl) (fun _ _ _ h => h) (Or.inl ⟨by kernel_rfl, ?_⟩) hS ?_
                        rotate_left 1
                        · (intro w' hSw; (try dsimp only at hSw); go_simp; try (with_reducible rfl))
                        try simp only [Act.put, List.setIfInBounds_toArray, List.set_cons_zero, List.set_cons_succ]
                        refine wpAnyH_takeD (i := 14) (v := ?_) rfl (by kernel_rfl) (by kernel_rfl) (by kernel_rfl) (fun _ _ _ h => h) (Or.inl ⟨by kernel_rfl, ?_⟩) hS ?_
                        rotate_left 1
                        · (intro w' hSw; (try dsimp only at hSw); go_simp; try (with_reducible rfl))
                        try simp only [Act.put, List.setIfInBounds_toArray, List.set_cons_zero, List.set_cons_succ]
                        refine wpAnyH_takeD (i := 15) (v := ?_) rfl (by kernel_rfl) (by kernel_rfl) (by kernel_rfl) (fun _ _ _ h => h) (Or.inl ⟨by kernel_rfl, ?_⟩) hS ?_
                        rotate_left 1
                        · (intro w' hSw; (try dsimp only at hSw); go_simp; try (with_reducible rfl))
                        try simp only [Act.put, List.setIfInBounds_toArray, List.set_cons_zero, List.set_cons_succ]
                        refine wpAnyH_takeD (i := 16) (v := ?_) rfl (by kernel_rfl) (by kernel_rfl) (by kernel_rfl) (fun _ _ _ h => h) (Or.inl ⟨by kernel_rfl, ?_⟩) hS ?_
                        rotate_left 1
                        · (intro w' hSw; (try dsimp only at hSw); go_simp; try (with_reducible rfl))
                        try simp only [Act.put, List.setIfInBounds_toArray, List.set_cons_zero, List.set_cons_succ]
                        refine wpAnyH_takeD (i := 17) (v := ?_) rfl (by kernel_rfl) (by kernel_rfl) (by kernel_rfl) (fun _ _ _ h => h) (Or.inl ⟨by kernel_rfl, ?_⟩) hS ?_
                        rotate_left 1
                        · (intro w' hSw; (try dsimp only at hSw); go_simp; try (with_reducible rfl))
                        try simp only [Act.put, List.setIfInBounds_toArray, List.set_cons_zero, List.set_cons_succ]
                        refine wpAnyH_oneD (i := 18) rfl (by kernel_rfl) (fun K hK => ?_)
                        go_simp
                        refine Calls.mono HLC.out ?_
                        rintro e w8 ⟨rfl, hb8'⟩
                        have hb8 : Below wr.heap.size wr w8 := below_undrew hb8'
                        have m0 := (hb8.cell (p := ⟨g, k, none⟩) hgy)
                        have m1 := (hb8.cell (p := ⟨bi, oi + i, none⟩) hbi)
                        have m2 := (hb8.cell (p := ⟨w.heap.size, 0, none⟩) hqy).trans y0
                        have m3 := (hb8.cell (p := ⟨w.heap.size, 1, none⟩) hqy).trans y1
                        go_wp2_with fail
                        refine hK.out _ _ ⟨⟨m0, m1⟩, m2, m3⟩ (fun hS => ?_)
                        clear hK
                        try simp only [Act.put, List.setIfInBounds_toArray, List.set_cons_zero, List.set_cons_succ]
                        refine wpAnyH_takeD (i := 19) (v := ?_) rfl (by kernel_rfl) (by kernel_rfl) (by kernel_rfl) (fun _ _ _ h => h) (Or.inl ⟨by kernel_rfl, ?_⟩) hS ?_
                        rotate_left 1
                        · (intro w' hSw; (try dsimp only at hSw); go_simp; try (with_reducible rfl))
                        try simp only [Act.put, List.setIfInBounds_toArray, List.set_cons_zero, List.set_cons_succ]
                        refine wpAnyH_done (by kernel_rfl) ?_ _
                        go_wp2
                        go_roundw
                        case rel => exact ⟨i + 1, by omega, by go_num, HTY.out.below hb8⟩
                        case measure => simp [intOf]; omega
                    · have hijn : i = j := by omega
                      subst hijn
                      have hkf := HAR.out.2.1
                      have hn0 := HAR.out.2.2
                      go_wp2
                      go_roundw
                      case rel => exact ⟨k + 1, by omega, by go_num, hby⟩
                      case measure => simp [intOf]; omega
        · have e9 : (op != 9) = true := by simp; omega
          have e10 : (op != 10) = true := by simp; omega
          have e11 : (op != 11) = true := by simp; omega
          have e12 : (op != 12) = true := by simp; omega
          clear hop hfx hat
          go_wp2
          go_roundw
          case rel => exact ⟨k + 1, by omega, by go_num, hbF2⟩
          case measure => simp [intOf]; omega
      · have hkn : k = f.length := by omega
        subst hkn
        go_wp2_with fail
        refine (wawake_any _).mono ?_
        rintro e w9 ⟨rfl, hb9⟩
        go_wp2
        go_ret
        exact ⟨rfl, HB2.out.trans ((hbr.trans (hb9.mono hbr.size)).mono HB2.out.size)⟩
  · have hR : truthW (wbit st lo) f st lo = [] := by rw [truthW, if_neg hgd]
    rw [hR] at hG
    obtain ⟨vs1, ho1, _, _⟩ := id hG
    obtain ⟨G1, k1, rfl, _⟩ := own_sl ho1
    have he0 : (((([] : List (List Bool)).length : Nat) : Int) == 0) = true := by simp
    clear hG ho1 hR hgd
    go_wp2_with fail
    refine (wawake_any _).mono ?_
    rintro e w9 ⟨rfl, hb9⟩
    go_wp2
    go_ret
    exact ⟨rfl, HB2.out.trans (hb9.mono HB2.out.size)⟩
end Go.Proofs.Ytkikkplpalabhaa
