/- The law WordPlaces of layer 27. -/
import Derived.Test.YtkikkplpalabhaaWdG
import Derived.Test.YtkikkplpalabhaaExtW
import Derived.Test.YtkikkplpalabhaaWkL2
namespace Go.Proofs.Ytkikkplpalabhaa
open Go.RowKit

/-- The longer word under way: its stem's row, its box. -/
structure PLg (w0 : World) (r : Option (Value × List Value)) (g : Option Nat) (W : World) : Prop where
  below : Below w0.heap.size w0 W
  row : ∀ v xs, r = some (v, xs) → W.ownsRow w0.heap.size 38 1 v xs.length xs
  blk : ∀ k, g = some k → W.heap[k]? = some (.cells #[.slice none 0 0, .slice none 0 0] 34 (0, 0)) ∧ w0.heap.size ≤ k
section
variable {w0 W W' : World} {r : Option (Value × List Value)} {og : Option Nat} {v v' : Value} {xs : List Value} {g : Nat}
theorem PLg.start (w0 : World) : PLg w0 none none w0.drew := ⟨Below.drew (Below.refl _ _), fun _ _ h => (by cases h), fun _ h => (by cases h)⟩
theorem PLg.alloc0 (w0 : World) : PLg w0 none (some w0.heap.size) (w0.alloc (.cells #[.slice none 0 0, .slice none 0 0] 34)).drew :=
  ⟨Below.drew ((Below.refl _ _).alloc (Nat.le_refl _) _), fun _ _ h => (by cases h), fun k hk => by cases hk; exact ⟨heap_alloc_new w0 _, Nat.le_refl _⟩⟩
theorem PLg.alloc (h : PLg w0 r none W) : PLg w0 r (some W.heap.size) (W.alloc (.cells #[.slice none 0 0, .slice none 0 0] 34)) := by
  have hb : Below W.heap.size W (W.alloc (.cells #[.slice none 0 0, .slice none 0 0] 34)) := (Below.refl _ _).alloc (Nat.le_refl _) _
  exact ⟨h.below.trans (hb.mono h.below.size), fun v xs e => own_below (h.row v xs e) hb, fun k hk => by cases hk; exact ⟨heap_alloc_new _ _, h.below.size⟩⟩
theorem PLg.new (h : PLg w0 none og W) (ho : W'.ownsRow W.heap.size 38 1 v 0 []) (hb : Below W.heap.size W W') : PLg w0 (some (v, [])) og W' :=
  ⟨h.below.trans (hb.mono h.below.size), fun v xs e => by cases e; exact own_base ho h.below.size, fun k hk => ⟨(hb.block k (lt_of_block (h.blk k hk).1)).trans (h.blk k hk).1, (h.blk k hk).2⟩⟩
theorem PLg.app {news : List Value} {m : Nat} (h : PLg w0 (some (v, xs)) og W) (ho : W'.ownsRow w0.heap.size 38 1 v' (xs.length + m) (xs ++ news)) (ht : Tch (fun k => v.ownBlock = some k) W W') : PLg w0 (some (v', xs ++ news)) og W' := by
  have hrow := h.row v xs rfl
  have hlen : (xs ++ news).length = xs.length + m := by have := ho.1; simpa using this
  refine ⟨h.below.trans (ht.below h.below.size (fun k hk e => by have := (hrow.lt k e).1; omega)), fun u ys e => ?_, fun k hk => ⟨ht.blk (h.blk k hk).1 (fun e => own_ne_blk hrow (h.blk k hk).1 (by decide) e), (h.blk k hk).2⟩⟩
  cases e
  rw [hlen]; exact ho
variable {ops : Array Oper} {o : Oper} {a : Act} {Q : Exit → Act → World → Prop} {K : Act → World → Prop} {E : Prop}
theorem PLg.ext (h : PLg w0 (some (v, xs)) og W) (hgd : o.guard = none) (s x : Operand) (ho : o.op = .call { callee := .builtin .append, args := #[s, x], argTypes := #[32, 32] }) (hs : a.eval s = v) {A : Option Addr} {m c : Nat} {l : List Int} (hr : Hid (Sl w0 w0.heap.size 1 A m c (ucells l))) (hx : a.eval x = .slice A m c) (hn : xs.length + m ≤ 1000000000000)
    (k : ∀ v' w', PLg w0 (some (v', xs ++ ucells l)) og w' → K (a.put o.dst v') w') : if Region.wanted o (yielded ops a.tmps) = true then Oper.wp Try.prog o a W K Q else E :=
  step_extend hgd s x 32 ho w0.heap.size 38 1 8 sliceSets v _ xs (h.row v xs rfl) hs w0.heap.size A m c (ucells l) hx (hr.out.below h.below (Nat.le_refl _)) (ucells_one _) hn (by omega) h.below.size (fun v' w' h1 h2 _ _ => k v' w' (h.app h1 h2))
theorem PLg.emp (h : PLg w0 none og W) (hgd : o.guard = none) (ho : o.op = .buildSlice 32 0 #[]) (k : ∀ v' w', PLg w0 (some (v', [])) og w' → K (a.put o.dst v') w') : if Region.wanted o (yielded ops a.tmps) = true then Oper.wp Try.prog o a W K Q else E :=
  step_empty hgd 32 ho 38 1 8 sliceSets (fun w' v' _ h2 h3 _ => k v' w' (h.new h2 h3))
/-- The longer word, in its box. -/
def LCutW (w0 : World) (N3 : Nat) (st lo : List Int) (A2 : Option Addr) (n2 c2 : Nat) (p : Value) (wF : World) : Prop :=
  ∃ hx L1 e1, p = .pointer (some ⟨hx, 0, none⟩) ∧ wF.cell? ⟨hx, 0, none⟩ = some (.slice L1 N3 e1) ∧ wF.cell? ⟨hx, 1, none⟩ = some (.slice A2 n2 c2) ∧ hx < wF.heap.size ∧ Sl wF wF.heap.size 1 L1 N3 e1 (ucells (st ++ lo)) ∧ Below w0.heap.size w0 wF
theorem PLg.form {st lo : List Int} (h : PLg w0 (some (v, [] ++ ucells st ++ ucells lo)) og W) {N3 : Nat} (hN3 : N3 = (st ++ lo).length) : ∃ A9 c9, v = .slice A9 N3 c9 := by
  have hrow := h.row _ _ rfl
  have e : ([] : List Value) ++ ucells st ++ ucells lo = ucells (st ++ lo) := by rw [List.nil_append, ucells_append]
  rw [e, ucells_len, ← hN3] at hrow
  obtain ⟨A9, c9, h9, _⟩ := own_sl hrow
  exact ⟨A9, c9, h9⟩
theorem PLg.close {st lo : List Int} {A2 : Option Addr} {n2 c2 : Nat} (h : PLg w0 (some (v, [] ++ ucells st ++ ucells lo)) (some g) W) {N3 : Nat} (hN3 : N3 = (st ++ lo).length) :
    ∃ A9 c9, v = .slice A9 N3 c9 ∧ W.heap[g]? = some (.cells #[.slice none 0 0, .slice none 0 0] 34 (0, 0)) ∧
      (LCutW w0 N3 st lo A2 n2 c2 (.pointer (some ⟨g, 0, none⟩)) ((W.setCell ⟨g, 0, none⟩ (.slice A9 N3 c9)).setCell ⟨g, 1, none⟩ (.slice A2 n2 c2)) ∧ Below w0.heap.size w0 ((W.setCell ⟨g, 0, none⟩ (.slice A9 N3 c9)).setCell ⟨g, 1, none⟩ (.slice A2 n2 c2))) := by
  have hrow := h.row _ _ rfl
  have e : ([] : List Value) ++ ucells st ++ ucells lo = ucells (st ++ lo) := by rw [List.nil_append, ucells_append]
  rw [e, ucells_len, ← hN3] at hrow
  obtain ⟨A9, c9, rfl, hs⟩ := own_sl hrow
  have hg := h.blk g rfl
  obtain ⟨f0, f1⟩ := word_set (x := .slice A9 N3 c9) (y := .slice A2 n2 c2) hg.1
  have ho := own_wordO (x := .slice A9 N3 c9) (y := .slice A2 n2 c2) hrow hg.1
  have hbe : Below w0.heap.size w0 ((W.setCell ⟨g, 0, none⟩ (.slice A9 N3 c9)).setCell ⟨g, 1, none⟩ (.slice A2 n2 c2)) := (h.below.setCell (p := ⟨g, 0, none⟩) hg.2 _).setCell (p := ⟨g, 1, none⟩) hg.2 _
  have hbk := word_blk (x := .slice A9 N3 c9) (y := .slice A2 n2 c2) hg.1
  exact ⟨A9, c9, rfl, hg.1, ⟨g, A9, c9, rfl, f0, f1, lt_of_block hbk, sl_own ho, hbe⟩, hbe⟩
end
theorem shiftP_len' (st lo : List Int) (k : Nat) : (shiftP st lo k).1.length ≤ st.length ∧ (shiftP st lo k).2.length ≤ lo.length := by
  by_cases h : lo = []
  · subst h; simp [shiftP]
  · rw [shiftP, if_neg h, shiftL]
    have hm := Nat.mod_lt ((k : Int).toNat - st.length) (List.length_pos_iff.2 h)
    split
    · simp
    · simp
      omega
set_option maxHeartbeats 40000000 in
set_option maxRecDepth 100000 in
theorem WordPlaces_any (A A1 A2 : Option Addr) (n c n1 c1 n2 c2 : Nat) (f : List Nd) (st lo : List Int) (x : Int) (w : World) (hnf : n = f.length) (h1 : n1 = st.length) (h2 : n2 = lo.length) (hf : Sl w w.heap.size 2 A n c (ncells f)) (hs : Sl w w.heap.size 1 A1 n1 c1 (ucells st)) (ht : Sl w w.heap.size 1 A2 n2 c2 (ucells lo))
    (hx : 0 ≤ x ∧ x ≤ 255) (hl : n ≤ 8796093022208) (hl1 : n1 ≤ 17592186044416) (hl2 : n2 ≤ 17592186044416) :
    Calls Try.prog 11 #[.slice A n c, .agg #[.slice A1 n1 c1, .slice A2 n2 c2], .int .u8 x] w (Tru w true) := by
  obtain ⟨hb0, x0, x1⟩ := wbox w A1 A2 n1 c1 n2 c2
  obtain ⟨W0, hW0⟩ : ∃ W, W = w.alloc (.cells #[.slice A1 n1 c1, .slice A2 n2 c2] 34) := ⟨_, rfl⟩
  have hz0 : w.heap.size < W0.heap.size := by rw [hW0]; simp
  rw [← hW0] at hb0 x0 x1
  have HW0 := Lib.hid hW0
  have HH := Lib.hid (heavyW_any A A1 A2 n c n1 c1 n2 c2 W0 (by omega) (by omega) (by omega))
  have hW := Lib.hid (⟨hs.below hb0 (Nat.le_refl _), ht.below hb0 (Nat.le_refl _), h1, h2⟩ : WRd W0 w.heap.size A1 A2 n1 c1 n2 c2 st lo)
  have hF := Lib.hid (hf.below hb0 (Nat.le_refl _))
  have HL1 := Lib.hid h1
  have HL2 := Lib.hid h2
  clear hW0 hs ht h1 h2 hf
  by_cases hg : 60 < n ∨ 30 < n1 ∨ 30 < n2
  · have e : (decide (60 < n) || decide (30 < n1) || decide (30 < n2)) = true := by simp; omega
    rw [e] at HH
    clear e hg hnf
    go_enter Try.func11, Try.ntmps11
    go_wp2_with fail
    rw [← HW0.out]
    refine Calls.mono HH.out ?_
    rintro e w1 ⟨rfl, hb1⟩
    go_wp2_with fail
    refine (wawake_any _).mono ?_
    rintro e w2 ⟨rfl, hb2⟩
    go_wp2
    go_ret
    exact ⟨rfl, hb0.trans ((hb1.trans (hb2.mono hb1.size)).mono hb0.size)⟩
  have e : (decide (60 < n) || decide (30 < n1) || decide (30 < n2)) = false := by simp; omega
  rw [e] at HH
  have hn0 : f.length ≤ 60 := by omega
  have hn1 : n1 ≤ 30 := by omega
  have hn2 : n2 ≤ 30 := by omega
  clear e hg hl hl1 hl2
  subst hnf
  have hck := fun W => pCheck_any A1 A2 n1 c1 n2 c2 st lo W HL1.out HL2.out (by omega)
  by_cases h20 : n2 = 0
  · rw [if_pos h20] at hck
    have HCK := Lib.hid hck
    clear hck h20
    go_enter Try.func11, Try.ntmps11
    go_wp2_with fail
    rw [← HW0.out]
    refine Calls.mono HH.out ?_
    rintro e w1 ⟨rfl, hb1⟩
    have g0 := (hb1.cell (p := ⟨w.heap.size, 0, none⟩) hz0).trans x0
    have g1 := (hb1.cell (p := ⟨w.heap.size, 1, none⟩) hz0).trans x1
    go_wp2_with fail
    refine Calls.mono (HCK.out _) ?_
    rintro e w3 ⟨rfl, hb3⟩
    go_wp2_with fail
    refine (wawake_any _).mono ?_
    rintro e w2 ⟨rfl, hb2⟩
    go_wp2
    go_ret
    have hb13 := hb1.trans (hb3.mono hb1.size)
    exact ⟨rfl, hb0.trans ((hb13.trans (hb2.mono hb13.size)).mono hb0.size)⟩
  rw [if_neg h20] at hck
  have HCK := Lib.hid hck
  have hlo : lo ≠ [] := fun e => h20 ((lo_nil HL2.out).2 e)
  have hn2p : 0 < n2 := by omega
  clear hck h20
  go_enter Try.func11, Try.ntmps11
  go_wp2_with fail
  rw [← HW0.out]
  refine Calls.mono HH.out ?_
  rintro e wa ⟨rfl, hba⟩
  have g0 := (hba.cell (p := ⟨w.heap.size, 0, none⟩) hz0).trans x0
  have g1 := (hba.cell (p := ⟨w.heap.size, 1, none⟩) hz0).trans x1
  go_wp2_with fail
  refine Calls.mono (HCK.out _) ?_
  rintro e w0 ⟨rfl, hbb⟩
  have hb1 : Below W0.heap.size W0 w0 := hba.trans (hbb.mono hba.size)
  have hWW := hW.out.below hb1 hb0.size
  have hFF := hF.out.below hb1 hb0.size
  have p0 := (hb1.cell (p := ⟨w.heap.size, 0, none⟩) hz0).trans x0
  have p1 := (hb1.cell (p := ⟨w.heap.size, 1, none⟩) hz0).trans x1
  have hzg : w.heap.size < w0.heap.size := Nat.lt_of_lt_of_le hz0 hb1.size
  have hb2 := hb0.trans (hb1.mono hb0.size)
  have hTr := truthP_any A A1 A2 c n1 c1 n2 c2 f st lo w0 (hFF.up hb2.size) (hWW.up hb2.size) (by omega) (by omega)
  have HF := Lib.hid hFF
  have HW := Lib.hid hWW
  have HB1 := Lib.hid hb2
  clear hW hF HH HW0 x0 x1 hb0 hb1 hz0 hWW hFF hb2 hba hbb g0 g1
  go_wp2_with fail
  refine Calls.mono hTr ?_
  rintro e wF ⟨v1, rfl, hG⟩
  have hbF : Below w0.heap.size w0 wF := hG.choose_spec.2.2
  have q0 := (hbF.cell (p := ⟨w.heap.size, 0, none⟩) hzg).trans p0
  have q1 := (hbF.cell (p := ⟨w.heap.size, 1, none⟩) hzg).trans p1
  have hqF : w.heap.size < wF.heap.size := Nat.lt_of_lt_of_le hzg hbF.size
  have HB2 := Lib.hid (HB1.out.trans (hbF.mono HB1.out.size))
  have HFF := Lib.hid (HF.out.below hbF HB1.out.size)
  have HWF := Lib.hid (HW.out.below hbF HB1.out.size)
  clear p0 p1 hTr hzg HF HW
  by_cases hgd : wrong f = 0
  · obtain ⟨hpos, htl, htk, hvl⟩ := truthW_some (bits := wbit st lo) (st := st) hlo hgd
    have hsome := holdsW_some (bits := wbit st lo) (st := st) hlo hgd
    have hNl : st.length + lo.length = n1 + n2 := by rw [HL1.out, HL2.out]
    obtain ⟨N, HN⟩ : ∃ N, Hid (N = n1 + n2) := ⟨_, Lib.hid rfl⟩
    have hN2 : N ≤ 60 := by have := HN.out; omega
    have hN1 : 0 < N := by have := HN.out; omega
    obtain ⟨k, HKX⟩ : ∃ k, Hid (k = x.toNat % N) := ⟨_, Lib.hid rfl⟩
    have hkN : k < N := by rw [HKX.out]; exact Nat.mod_lt _ hN1
    have hkk : k < st.length + lo.length := by rw [hNl, ← HN.out]; exact hkN
    have hshift := holds_shift hlo hgd hkk
    have hnorm := holds_norm hlo hgd (st := st)
    have hlong := holds_longer hlo hgd (st := st)
    have hsm := same_longer hlo (st := st)
    have hats := at_shift hlo k (st := st)
    obtain ⟨g, capg, rfl⟩ := hG.form (by rw [htl]; exact hpos)
    obtain ⟨NR, HNR⟩ : ∃ N, Hid (N = (truthW (wbit st lo) f st lo).length) := ⟨_, Lib.hid rfl⟩
    have hNRf : NR = f.length := HNR.out.trans htl
    rw [← hNRf] at htk hpos
    obtain ⟨Ai, ci, gk0, hsl⟩ := hG.cellAt htk
    rw [hvl, hNl, ← HN.out] at gk0
    rw [← HNR.out] at hG ⊢
    have hgF : g < wF.heap.size := by obtain ⟨vs, ho, _⟩ := hG; exact (ho.lt g rfl).2
    obtain ⟨bi, oi, rfl, hbi, b0⟩ := hsl.rd.at_ (bcells_at (i := 0) (by rw [hvl, hNl, ← HN.out]; exact hN1))
    obtain ⟨_, _, hA, _, b1⟩ := hsl.rd.at_ (bcells_at (i := k) (by rw [hvl]; exact hkk))
    cases hA
    rw [Nat.add_zero, ← hsome] at b0
    rw [hshift] at b1
    obtain ⟨hh, HHH⟩ : ∃ b, Hid (holdsW (wbit st lo) f st lo = b) := ⟨_, Lib.hid rfl⟩
    obtain ⟨sh, HSH⟩ : ∃ b, Hid (holdsW (wbit (shiftP st lo k).1 (shiftP st lo k).2) f (shiftP st lo k).1 (shiftP st lo k).2 = b) := ⟨_, Lib.hid rfl⟩
    rw [HHH.out] at b0
    rw [HSH.out] at b1
    have HHN := Lib.hid (hnorm.trans HHH.out)
    have HHL := Lib.hid (hlong.trans HHH.out)
    have HSL2 := Lib.hid hsm
    obtain ⟨k5, HK5⟩ : ∃ q, Hid (q = k + 5) := ⟨_, Lib.hid rfl⟩
    have hk5 : k5 ≤ 100 := by have := HK5.out; omega
    rw [← HK5.out] at hats
    obtain ⟨av, HAK⟩ : ∃ v, Hid (atW st lo (k5 : Int) = v) := ⟨_, Lib.hid rfl⟩
    have HAS := Lib.hid (hats.trans HAK.out)
    have hsl2 := shiftP_len' st lo k
    have HSL : Hid ((shiftP st lo k).1.length + (shiftP st lo k).2.length ≤ 60000) := Lib.hid (by have := HL1.out; have := HL2.out; omega)
    have hnl := normP_len st lo
    have HNL : Hid ((normP st lo).1.length + (normP st lo).2.length ≤ 60000) := Lib.hid (by have := HL1.out; have := HL2.out; omega)
    obtain ⟨xn, rfl⟩ := Int.eq_ofNat_of_zero_le hx.1
    have hxn : xn ≤ 255 := by omega
    have hk1 : ((xn : Int)).tmod (N : Int) = (k : Int) := by rw [Int.tmod_eq_emod_of_nonneg (by omega), HKX.out, Int.toNat_natCast]; omega
    have hN0 : ¬ ((N : Int) = 0) := by omega
    have HLN := Lib.hid (fun W => by have := pLen_any A1 A2 n1 c1 n2 c2 W (by omega); rw [← HN.out] at this; exact this)
    have u5 : IntKind.i64.wrap ((k : Int) + 5) = (k5 : Int) := by have := HK5.out; rw [IntWalk.i64_in _ (by omega)]; omega
    have hne0 : ((NR : Int) == 0) = false := by simp; omega
    have HNRF := Lib.hid hNRf
    have HG1 := Lib.hid gk0
    have HU5 := Lib.hid u5
    obtain ⟨NR1, HNR1⟩ : ∃ q, Hid (q = NR - 1) := ⟨_, Lib.hid rfl⟩
    have hNR1 : NR1 < NR := by have := HNR1.out; omega
    have ur : IntKind.i64.wrap ((NR : Int) - 1) = (NR1 : Int) := by have := HNR1.out; rw [IntWalk.i64_in _ (by have := hNRf; omega)]; omega
    rw [← HNR1.out] at gk0
    have HUR := Lib.hid ur
    have hNRb : NR ≤ 60 := by omega
    have HHG := Lib.hid hgd
    clear hG hsl htk htl hvl hsome hNl hkk hshift hnorm hlong hsm hats hsl2 hnl hNRf hgd hlo HG1 u5 ur hx
    go_wp2_with fail
    refine Calls.mono (HLN.out _) ?_
    rintro e wb ⟨rfl, hb⟩
    have z0 := (hb.cell (p := ⟨w.heap.size, 0, none⟩) hqF).trans q0
    have z1 := (hb.cell (p := ⟨w.heap.size, 1, none⟩) hqF).trans q1
    have z2 := (hb.cell (p := ⟨g, NR1, none⟩) hgF).trans gk0
    have z3 := (hb.cell (p := ⟨bi, oi, none⟩) hbi).trans b0
    have z4 := (hb.cell (p := ⟨bi, oi + k, none⟩) hbi).trans b1
    have hqb : w.heap.size < wb.heap.size := Nat.lt_of_lt_of_le hqF hb.size
    have hgb : g < wb.heap.size := Nat.lt_of_lt_of_le hgF hb.size
    have hbb : bi < wb.heap.size := Nat.lt_of_lt_of_le hbi hb.size
    have HB3 := Lib.hid (HB2.out.trans (hb.mono HB2.out.size))
    have hWb := HWF.out.below hb HB2.out.size
    have HS1 := Lib.hid ((hWb.s1.up (Nat.le_of_lt hqb)))
    have HS2 := Lib.hid ((hWb.s2.up (Nat.le_of_lt hqb)))
    have HWB := Lib.hid hWb
    have HFB := Lib.hid (HFF.out.below hb HB2.out.size)
    clear q0 q1 gk0 b0 b1 hqF hgF hbi hb hWb HFF HWF
    have q0 := z0
    have q1 := z1
    clear z0 z1
    go_wp2_with fail
    obtain ⟨N3, HN3⟩ : ∃ n, Hid (n = (st ++ lo).length) := ⟨_, Lib.hid rfl⟩
    go_cut [9] (fun p wF => LCutW wb N3 st lo A2 n2 c2 p wF)
    case first =>
      refine wp_region_held_drew (S := fun w' => w'.cell? ⟨w.heap.size, 0, none⟩ = some (.slice A1 n1 c1) ∧ w'.cell? ⟨w.heap.size, 1, none⟩ = some (.slice A2 n2 c2)) (by kernel_rfl) ⟨q0, q1⟩ (fun hS => ?_)
      refine wpAnyH_takeD (i := 1) (v := ?_) rfl (by kernel_rfl) (by kernel_rfl) (by kernel_rfl) (fun _ _ _ h => h) (Or.inl ⟨by kernel_rfl, ?_⟩) hS ?_
      rotate_left 1
      · (intro w' hSw; (try dsimp only at hSw); go_simp; try (with_reducible rfl))
      try simp only [Act.put, List.setIfInBounds_toArray, List.set_cons_zero, List.set_cons_succ]
      refine wpAnyH_takeD (i := 2) (v := ?_) rfl (by kernel_rfl) (by kernel_rfl) (by kernel_rfl) (fun _ _ _ h => h) (Or.inl ⟨by kernel_rfl, ?_⟩) hS ?_
      rotate_left 1
      · (intro w' hSw; (try dsimp only at hSw); go_simp; try (with_reducible rfl))
      try simp only [Act.put, List.setIfInBounds_toArray, List.set_cons_zero, List.set_cons_succ]
      refine wpAnyH_takeD (i := 4) (v := ?_) rfl (by kernel_rfl) (by kernel_rfl) (by kernel_rfl) (fun _ _ _ h => h) (Or.inl ⟨by kernel_rfl, ?_⟩) hS ?_
      rotate_left 1
      · (intro w' hSw; (try dsimp only at hSw); go_simp; try (with_reducible rfl))
      try simp only [Act.put, List.setIfInBounds_toArray, List.set_cons_zero, List.set_cons_succ]
      refine wpAnyH_takeD (i := 5) (v := ?_) rfl (by kernel_rfl) (by kernel_rfl) (by kernel_rfl) (fun _ _ _ h => h) (Or.inl ⟨by kernel_rfl, ?_⟩) hS ?_
      rotate_left 1
      · (intro w' hSw; (try dsimp only at hSw); go_simp; try (with_reducible rfl))
      try simp only [Act.put, List.setIfInBounds_toArray, List.set_cons_zero, List.set_cons_succ]
      refine wpAnyH_takeD (i := 7) (v := ?_) rfl (by kernel_rfl) (by kernel_rfl) (by kernel_rfl) (fun _ _ _ h => h) (Or.inl ⟨by kernel_rfl, ?_⟩) hS ?_
      rotate_left 1
      · (intro w' hSw; (try dsimp only at hSw); go_simp; try (with_reducible rfl))
      try simp only [Act.put, List.setIfInBounds_toArray, List.set_cons_zero, List.set_cons_succ]
      refine wpAnyH_takeD (i := 8) (v := ?_) rfl (by kernel_rfl) (by kernel_rfl) (by kernel_rfl) (fun _ _ _ h => h) (Or.inl ⟨by kernel_rfl, ?_⟩) hS ?_
      rotate_left 1
      · (intro w' hSw; (try dsimp only at hSw); go_simp; try (with_reducible rfl))
      try simp only [Act.put, List.setIfInBounds_toArray, List.set_cons_zero, List.set_cons_succ]
      refine wpAnyH_ready (rs := [0, 10]) (by kernel_rfl) (by simp) ?_
      refine (allReadyH_consD (i := 0) rfl (fun K hK => ?_) (allReadyH_consD (i := 10) rfl (fun K hK => ?_) AllReadyH.nil))
      · skip
        refine (PLg.start wb).emp rfl rfl (fun u1 W1 hn1 => ?_)
        have k0 := (hn1.below.cell (p := ⟨w.heap.size, 0, none⟩) hqb).trans q0
        have k1 := (hn1.below.cell (p := ⟨w.heap.size, 1, none⟩) hqb).trans q1
        have HP1 := Lib.hid hn1
        clear hn1
        refine hK.out _ _ ⟨k0, k1⟩ (fun hS => ?_)
        clear hK
        try simp only [Act.put, List.setIfInBounds_toArray, List.set_cons_zero, List.set_cons_succ]
        refine wpAnyH_ready (rs := [3, 10]) (by kernel_rfl) (by simp) ?_
        refine (allReadyH_consD (i := 3) rfl (fun K hK => ?_) (allReadyH_consD (i := 10) rfl (fun K hK => ?_) AllReadyH.nil))
        · skip
          refine HP1.out.ext rfl (.tmp 39) (.tmp 41) rfl (by rfl) HS1 (by rfl) (by simp; omega) (fun u2 W2 hn2 => ?_)
          have k0 := (hn2.below.cell (p := ⟨w.heap.size, 0, none⟩) hqb).trans q0
          have k1 := (hn2.below.cell (p := ⟨w.heap.size, 1, none⟩) hqb).trans q1
          have HP2 := Lib.hid hn2
          clear hn2
          refine hK.out _ _ ⟨k0, k1⟩ (fun hS => ?_)
          clear hK
          try simp only [Act.put, List.setIfInBounds_toArray, List.set_cons_zero, List.set_cons_succ]
          refine wpAnyH_ready (rs := [6, 10]) (by kernel_rfl) (by simp) ?_
          refine (allReadyH_consD (i := 6) rfl (fun K hK => ?_) (allReadyH_consD (i := 10) rfl (fun K hK => ?_) AllReadyH.nil))
          · skip
            refine HP2.out.ext rfl (.tmp 42) (.tmp 44) rfl (by rfl) HS2 (by rfl) (by have := HL1.out; simp [ucells]; omega) (fun u3 W3 hn3 => ?_)
            have k0 := (hn3.below.cell (p := ⟨w.heap.size, 0, none⟩) hqb).trans q0
            have k1 := (hn3.below.cell (p := ⟨w.heap.size, 1, none⟩) hqb).trans q1
            have HP3 := Lib.hid hn3
            clear hn3
            refine hK.out _ _ ⟨k0, k1⟩ (fun hS => ?_)
            clear hK
            try simp only [Act.put, List.setIfInBounds_toArray, List.set_cons_zero, List.set_cons_succ]
            obtain ⟨A8, c8, he8⟩ := HP3.out.form HN3.out
            subst he8
            refine wpAnyH_takeD (i := 9) (v := ?_) rfl (by kernel_rfl) (by kernel_rfl) (by kernel_rfl) (fun _ _ _ h => h) (Or.inl ⟨by kernel_rfl, ?_⟩) hS ?_
            rotate_left 1
            · (intro w' hSw; (try dsimp only at hSw); go_simp; try (with_reducible rfl))
            try simp only [Act.put, List.setIfInBounds_toArray, List.set_cons_zero, List.set_cons_succ]
            refine wpAnyH_oneD (i := 10) rfl (by kernel_rfl) (fun K hK => ?_)
            go_simp
            have hn4 := HP3.out.alloc
            obtain ⟨W4, hW4⟩ : ∃ W, W = W3.alloc (.cells #[.slice none 0 0, .slice none 0 0] 34) := ⟨_, rfl⟩
            obtain ⟨gq, hgq⟩ : ∃ g, g = W3.heap.size := ⟨_, rfl⟩
            rw [← hW4, ← hgq] at hn4
            rw [← hW4, ← hgq]
            clear hW4 hgq
            have k0 := (hn4.below.cell (p := ⟨w.heap.size, 0, none⟩) hqb).trans q0
            have k1 := (hn4.below.cell (p := ⟨w.heap.size, 1, none⟩) hqb).trans q1
            have HP4 := Lib.hid hn4
            clear hn4
            refine hK.out _ _ ⟨k0, k1⟩ (fun hS => ?_)
            clear hK
            try simp only [Act.put, List.setIfInBounds_toArray, List.set_cons_zero, List.set_cons_succ]
            obtain ⟨A9, c9, he9, hblk, hfin⟩ := HP4.out.close (A2 := A2) (n2 := n2) (c2 := c2) HN3.out
            cases he9
            obtain ⟨⟨y0, y1⟩, ⟨z0, z1⟩⟩ := blk2 hblk
            have HFIN := Lib.hid hfin
            clear hfin hblk
            refine wpAnyH_oneD (i := 11) rfl (by kernel_rfl) (fun K hK => ?_)
            go_simp
            have hfn := HFIN.out
            have k0' := (hfn.2.cell (p := ⟨w.heap.size, 0, none⟩) hqb).trans q0
            have k1' := (hfn.2.cell (p := ⟨w.heap.size, 1, none⟩) hqb).trans q1
            clear hfn
            refine hK.out _ _ ⟨k0', k1'⟩ (fun hS => ?_)
            clear hK
            try simp only [Act.put, List.setIfInBounds_toArray, List.set_cons_zero, List.set_cons_succ]
            refine wpAnyH_done (by kernel_rfl) ?_ _
            go_wp2_with fail
            go_meet
            exact HFIN.out.1
          · skip
            go_simp
            have hn6 := HP2.out.alloc
            obtain ⟨W6, hW6⟩ : ∃ W, W = W2.alloc (.cells #[.slice none 0 0, .slice none 0 0] 34) := ⟨_, rfl⟩
            obtain ⟨gq, hgq⟩ : ∃ g, g = W2.heap.size := ⟨_, rfl⟩
            rw [← hW6, ← hgq] at hn6
            rw [← hW6, ← hgq]
            clear hW6 hgq
            have k0 := (hn6.below.cell (p := ⟨w.heap.size, 0, none⟩) hqb).trans q0
            have k1 := (hn6.below.cell (p := ⟨w.heap.size, 1, none⟩) hqb).trans q1
            have HP6 := Lib.hid hn6
            clear hn6
            refine hK.out _ _ ⟨k0, k1⟩ (fun hS => ?_)
            clear hK
            try simp only [Act.put, List.setIfInBounds_toArray, List.set_cons_zero, List.set_cons_succ]
            refine wpAnyH_oneD (i := 6) rfl (by kernel_rfl) (fun K hK => ?_)
            refine HP6.out.ext rfl (.tmp 42) (.tmp 44) rfl (by rfl) HS2 (by rfl) (by have := HL1.out; simp [ucells]; omega) (fun u7 W7 hn7 => ?_)
            have k0 := (hn7.below.cell (p := ⟨w.heap.size, 0, none⟩) hqb).trans q0
            have k1 := (hn7.below.cell (p := ⟨w.heap.size, 1, none⟩) hqb).trans q1
            have HP7 := Lib.hid hn7
            clear hn7
            refine hK.out _ _ ⟨k0, k1⟩ (fun hS => ?_)
            clear hK
            try simp only [Act.put, List.setIfInBounds_toArray, List.set_cons_zero, List.set_cons_succ]
            obtain ⟨A9, c9, he9, hblk, hfin⟩ := HP7.out.close (A2 := A2) (n2 := n2) (c2 := c2) HN3.out
            cases he9
            obtain ⟨⟨y0, y1⟩, ⟨z0, z1⟩⟩ := blk2 hblk
            have HFIN := Lib.hid hfin
            clear hfin hblk
            refine wpAnyH_takeD (i := 9) (v := ?_) rfl (by kernel_rfl) (by kernel_rfl) (by kernel_rfl) (fun _ _ _ h => h) (Or.inl ⟨by kernel_rfl, ?_⟩) hS ?_
            rotate_left 1
            · (intro w' hSw; (try dsimp only at hSw); go_simp; try (with_reducible rfl))
            try simp only [Act.put, List.setIfInBounds_toArray, List.set_cons_zero, List.set_cons_succ]
            refine wpAnyH_oneD (i := 11) rfl (by kernel_rfl) (fun K hK => ?_)
            go_simp
            have hfn := HFIN.out
            have k0' := (hfn.2.cell (p := ⟨w.heap.size, 0, none⟩) hqb).trans q0
            have k1' := (hfn.2.cell (p := ⟨w.heap.size, 1, none⟩) hqb).trans q1
            clear hfn
            refine hK.out _ _ ⟨k0', k1'⟩ (fun hS => ?_)
            clear hK
            try simp only [Act.put, List.setIfInBounds_toArray, List.set_cons_zero, List.set_cons_succ]
            refine wpAnyH_done (by kernel_rfl) ?_ _
            go_wp2_with fail
            go_meet
            exact HFIN.out.1
        · skip
          go_simp
          have hn9 := HP1.out.alloc
          obtain ⟨W9, hW9⟩ : ∃ W, W = W1.alloc (.cells #[.slice none 0 0, .slice none 0 0] 34) := ⟨_, rfl⟩
          obtain ⟨gq, hgq⟩ : ∃ g, g = W1.heap.size := ⟨_, rfl⟩
          rw [← hW9, ← hgq] at hn9
          rw [← hW9, ← hgq]
          clear hW9 hgq
          have k0 := (hn9.below.cell (p := ⟨w.heap.size, 0, none⟩) hqb).trans q0
          have k1 := (hn9.below.cell (p := ⟨w.heap.size, 1, none⟩) hqb).trans q1
          have HP9 := Lib.hid hn9
          clear hn9
          refine hK.out _ _ ⟨k0, k1⟩ (fun hS => ?_)
          clear hK
          try simp only [Act.put, List.setIfInBounds_toArray, List.set_cons_zero, List.set_cons_succ]
          refine wpAnyH_oneD (i := 3) rfl (by kernel_rfl) (fun K hK => ?_)
          refine HP9.out.ext rfl (.tmp 39) (.tmp 41) rfl (by rfl) HS1 (by rfl) (by simp; omega) (fun u10 W10 hn10 => ?_)
          have k0 := (hn10.below.cell (p := ⟨w.heap.size, 0, none⟩) hqb).trans q0
          have k1 := (hn10.below.cell (p := ⟨w.heap.size, 1, none⟩) hqb).trans q1
          have HP10 := Lib.hid hn10
          clear hn10
          refine hK.out _ _ ⟨k0, k1⟩ (fun hS => ?_)
          clear hK
          try simp only [Act.put, List.setIfInBounds_toArray, List.set_cons_zero, List.set_cons_succ]
          refine wpAnyH_oneD (i := 6) rfl (by kernel_rfl) (fun K hK => ?_)
          refine HP10.out.ext rfl (.tmp 42) (.tmp 44) rfl (by rfl) HS2 (by rfl) (by have := HL1.out; simp [ucells]; omega) (fun u11 W11 hn11 => ?_)
          have k0 := (hn11.below.cell (p := ⟨w.heap.size, 0, none⟩) hqb).trans q0
          have k1 := (hn11.below.cell (p := ⟨w.heap.size, 1, none⟩) hqb).trans q1
          have HP11 := Lib.hid hn11
          clear hn11
          refine hK.out _ _ ⟨k0, k1⟩ (fun hS => ?_)
          clear hK
          try simp only [Act.put, List.setIfInBounds_toArray, List.set_cons_zero, List.set_cons_succ]
          obtain ⟨A9, c9, he9, hblk, hfin⟩ := HP11.out.close (A2 := A2) (n2 := n2) (c2 := c2) HN3.out
          cases he9
          obtain ⟨⟨y0, y1⟩, ⟨z0, z1⟩⟩ := blk2 hblk
          have HFIN := Lib.hid hfin
          clear hfin hblk
          refine wpAnyH_takeD (i := 9) (v := ?_) rfl (by kernel_rfl) (by kernel_rfl) (by kernel_rfl) (fun _ _ _ h => h) (Or.inl ⟨by kernel_rfl, ?_⟩) hS ?_
          rotate_left 1
          · (intro w' hSw; (try dsimp only at hSw); go_simp; try (with_reducible rfl))
          try simp only [Act.put, List.setIfInBounds_toArray, List.set_cons_zero, List.set_cons_succ]
          refine wpAnyH_oneD (i := 11) rfl (by kernel_rfl) (fun K hK => ?_)
          go_simp
          have hfn := HFIN.out
          have k0' := (hfn.2.cell (p := ⟨w.heap.size, 0, none⟩) hqb).trans q0
          have k1' := (hfn.2.cell (p := ⟨w.heap.size, 1, none⟩) hqb).trans q1
          clear hfn
          refine hK.out _ _ ⟨k0', k1'⟩ (fun hS => ?_)
          clear hK
          try simp only [Act.put, List.setIfInBounds_toArray, List.set_cons_zero, List.set_cons_succ]
          refine wpAnyH_done (by kernel_rfl) ?_ _
          go_wp2_with fail
          go_meet
          exact HFIN.out.1
      · skip
        go_simp
        have hn13 := PLg.alloc0 wb
        obtain ⟨W13, hW13⟩ : ∃ W, W = (wb.alloc (.cells #[.slice none 0 0, .slice none 0 0] 34)).drew := ⟨_, rfl⟩
        rw [← hW13] at hn13 ⊢
        obtain ⟨gq, hgq⟩ : ∃ g, g = wb.heap.size := ⟨_, rfl⟩
        rw [← hgq] at hn13 ⊢
        clear hW13 hgq
        have k0 := (hn13.below.cell (p := ⟨w.heap.size, 0, none⟩) hqb).trans q0
        have k1 := (hn13.below.cell (p := ⟨w.heap.size, 1, none⟩) hqb).trans q1
        have HP13 := Lib.hid hn13
        clear hn13
        refine hK.out _ _ ⟨k0, k1⟩ (fun hS => ?_)
        clear hK
        try simp only [Act.put, List.setIfInBounds_toArray, List.set_cons_zero, List.set_cons_succ]
        refine wpAnyH_oneD (i := 0) rfl (by kernel_rfl) (fun K hK => ?_)
        refine HP13.out.emp rfl rfl (fun u14 W14 hn14 => ?_)
        have k0 := (hn14.below.cell (p := ⟨w.heap.size, 0, none⟩) hqb).trans q0
        have k1 := (hn14.below.cell (p := ⟨w.heap.size, 1, none⟩) hqb).trans q1
        have HP14 := Lib.hid hn14
        clear hn14
        refine hK.out _ _ ⟨k0, k1⟩ (fun hS => ?_)
        clear hK
        try simp only [Act.put, List.setIfInBounds_toArray, List.set_cons_zero, List.set_cons_succ]
        refine wpAnyH_oneD (i := 3) rfl (by kernel_rfl) (fun K hK => ?_)
        refine HP14.out.ext rfl (.tmp 39) (.tmp 41) rfl (by rfl) HS1 (by rfl) (by simp; omega) (fun u15 W15 hn15 => ?_)
        have k0 := (hn15.below.cell (p := ⟨w.heap.size, 0, none⟩) hqb).trans q0
        have k1 := (hn15.below.cell (p := ⟨w.heap.size, 1, none⟩) hqb).trans q1
        have HP15 := Lib.hid hn15
        clear hn15
        refine hK.out _ _ ⟨k0, k1⟩ (fun hS => ?_)
        clear hK
        try simp only [Act.put, List.setIfInBounds_toArray, List.set_cons_zero, List.set_cons_succ]
        refine wpAnyH_oneD (i := 6) rfl (by kernel_rfl) (fun K hK => ?_)
        refine HP15.out.ext rfl (.tmp 42) (.tmp 44) rfl (by rfl) HS2 (by rfl) (by have := HL1.out; simp [ucells]; omega) (fun u16 W16 hn16 => ?_)
        have k0 := (hn16.below.cell (p := ⟨w.heap.size, 0, none⟩) hqb).trans q0
        have k1 := (hn16.below.cell (p := ⟨w.heap.size, 1, none⟩) hqb).trans q1
        have HP16 := Lib.hid hn16
        clear hn16
        refine hK.out _ _ ⟨k0, k1⟩ (fun hS => ?_)
        clear hK
        try simp only [Act.put, List.setIfInBounds_toArray, List.set_cons_zero, List.set_cons_succ]
        obtain ⟨A9, c9, he9, hblk, hfin⟩ := HP16.out.close (A2 := A2) (n2 := n2) (c2 := c2) HN3.out
        cases he9
        obtain ⟨⟨y0, y1⟩, ⟨z0, z1⟩⟩ := blk2 hblk
        have HFIN := Lib.hid hfin
        clear hfin hblk
        refine wpAnyH_takeD (i := 9) (v := ?_) rfl (by kernel_rfl) (by kernel_rfl) (by kernel_rfl) (fun _ _ _ h => h) (Or.inl ⟨by kernel_rfl, ?_⟩) hS ?_
        rotate_left 1
        · (intro w' hSw; (try dsimp only at hSw); go_simp; try (with_reducible rfl))
        try simp only [Act.put, List.setIfInBounds_toArray, List.set_cons_zero, List.set_cons_succ]
        refine wpAnyH_oneD (i := 11) rfl (by kernel_rfl) (fun K hK => ?_)
        go_simp
        have hfn := HFIN.out
        have k0' := (hfn.2.cell (p := ⟨w.heap.size, 0, none⟩) hqb).trans q0
        have k1' := (hfn.2.cell (p := ⟨w.heap.size, 1, none⟩) hqb).trans q1
        clear hfn
        refine hK.out _ _ ⟨k0', k1'⟩ (fun hS => ?_)
        clear hK
        try simp only [Act.put, List.setIfInBounds_toArray, List.set_cons_zero, List.set_cons_succ]
        refine wpAnyH_done (by kernel_rfl) ?_ _
        go_wp2_with fail
        go_meet
        exact HFIN.out.1
    case rest =>
      obtain ⟨hx, L1, e1, rfl, x0, x1, hzx, hsx, hbx⟩ := hcut
      obtain ⟨w0, hw0⟩ : ∃ W, W = wc := ⟨_, rfl⟩
      rw [← hw0] at x0 x1 hzx hsx hbx ⊢
      clear hw0
      have hN3 : N3 ≤ 60 := by have h := HN3.out; rw [List.length_append] at h; have := HL1.out; have := HL2.out; omega
      obtain ⟨B, hB⟩ : ∃ B, B = w.heap.size := ⟨_, rfl⟩
      have HFA := Lib.hid (HFB.out.below hbx HB3.out.size)
      have HWA := Lib.hid (HWB.out.below hbx HB3.out.size)
      have HXA := Lib.hid hsx
      have HBA := Lib.hid (HB3.out.trans (hbx.mono HB3.out.size))
      have y0 := (hbx.cell (p := ⟨w.heap.size, 0, none⟩) hqb).trans q0
      have y1 := (hbx.cell (p := ⟨w.heap.size, 1, none⟩) hqb).trans q1
      have g0 := (hbx.cell (p := ⟨g, NR1, none⟩) hgb).trans z2
      have b0 := (hbx.cell (p := ⟨bi, oi, none⟩) hbb).trans z3
      have b1 := (hbx.cell (p := ⟨bi, oi + k, none⟩) hbb).trans z4
      have hzq := Nat.lt_of_lt_of_le hqb hbx.size
      have hzg := Nat.lt_of_lt_of_le hgb hbx.size
      have hzb := Nat.lt_of_lt_of_le hbb hbx.size
      rw [← hB] at HFA HWA
      have hB0 : B ≤ w0.heap.size := by omega
      have HBB := Lib.hid hB
      clear q0 q1 z2 z3 z4 hqb hgb hbb HB2 HB3 HS1 HS2 HWB HFB hsx hbx hbF HB1 hB hne0 hk1 hN0
      have q0 := y0
      have q1 := y1
      clear y0 y1
      have ur := HUR.out
      go_wp2_with fail
      have hbd : Below w0.heap.size w0 w0.drew := Below.drew (Below.refl _ _)
      refine wp_region_held_drew (S := fun w' => w'.cell? ⟨w.heap.size, 0, none⟩ = some (.slice A1 n1 c1) ∧ w'.cell? ⟨w.heap.size, 1, none⟩ = some (.slice A2 n2 c2) ∧ w'.cell? ⟨g, NR1, none⟩ = some (.slice (some ⟨bi, oi, none⟩) N ci) ∧ w'.cell? ⟨bi, oi, none⟩ = some (.bool hh) ∧ w'.cell? ⟨bi, oi + k, none⟩ = some (.bool sh) ∧ w'.cell? ⟨hx, 0, none⟩ = some (.slice L1 N3 e1) ∧ w'.cell? ⟨hx, 1, none⟩ = some (.slice A2 n2 c2)) (by kernel_rfl) ⟨q0, q1, g0, b0, b1, x0, x1⟩ (fun hS => ?_)
      refine wpAnyH_takeD (i := 0) (v := ?_) rfl (by kernel_rfl) (by kernel_rfl) (by kernel_rfl) (fun _ _ _ h => h) (Or.inl ⟨by kernel_rfl, ?_⟩) hS ?_
      rotate_left 1
      · (intro w' hSw; (try dsimp only at hSw); go_simp; try (with_reducible rfl))
      try simp only [Act.put, List.setIfInBounds_toArray, List.set_cons_zero, List.set_cons_succ]
      refine wpAnyH_takeD (i := 1) (v := ?_) rfl (by kernel_rfl) (by kernel_rfl) (by kernel_rfl) (fun _ _ _ h => h) (Or.inl ⟨by kernel_rfl, ?_⟩) hS ?_
      rotate_left 1
      · (intro w' hSw; (try dsimp only at hSw); go_simp; try (with_reducible rfl))
      try simp only [Act.put, List.setIfInBounds_toArray, List.set_cons_zero, List.set_cons_succ]
      refine wpAnyH_takeD (i := 2) (v := ?_) rfl (by kernel_rfl) (by kernel_rfl) (by kernel_rfl) (fun _ _ _ h => h) (Or.inl ⟨by kernel_rfl, ?_⟩) hS ?_
      rotate_left 1
      · (intro w' hSw; (try dsimp only at hSw); go_simp; try (with_reducible rfl))
      try simp only [Act.put, List.setIfInBounds_toArray, List.set_cons_zero, List.set_cons_succ]
      refine wpAnyH_takeD (i := 3) (v := ?_) rfl (by kernel_rfl) (by kernel_rfl) (by kernel_rfl) (fun _ _ _ h => h) (Or.inl ⟨by kernel_rfl, ?_⟩) hS ?_
      rotate_left 1
      · (intro w' hSw; (try dsimp only at hSw); go_simp; try (with_reducible rfl))
      try simp only [Act.put, List.setIfInBounds_toArray, List.set_cons_zero, List.set_cons_succ]
      refine wpAnyH_takeD (i := 4) (v := ?_) rfl (by kernel_rfl) (by kernel_rfl) (by kernel_rfl) (fun _ _ _ h => h) (Or.inl ⟨by kernel_rfl, ?_⟩) hS ?_
      rotate_left 1
      · (intro w' hSw; (try dsimp only at hSw); go_simp; try (with_reducible rfl))
      try simp only [Act.put, List.setIfInBounds_toArray, List.set_cons_zero, List.set_cons_succ]
      refine wpAnyH_takeD (i := 5) (v := ?_) rfl (by kernel_rfl) (by kernel_rfl) (by kernel_rfl) (fun _ _ _ h => h) (Or.inl ⟨by kernel_rfl, ?_⟩) hS ?_
      rotate_left 1
      · (intro w' hSw; (try dsimp only at hSw); go_simp; try (with_reducible rfl))
      try simp only [Act.put, List.setIfInBounds_toArray, List.set_cons_zero, List.set_cons_succ]
      refine wpAnyH_takeD (i := 6) (v := ?_) rfl (by kernel_rfl) (by kernel_rfl) (by kernel_rfl) (fun _ _ _ h => h) (Or.inl ⟨by kernel_rfl, ?_⟩) hS ?_
      rotate_left 1
      · (intro w' hSw; (try dsimp only at hSw); go_simp; try (with_reducible rfl))
      try simp only [Act.put, List.setIfInBounds_toArray, List.set_cons_zero, List.set_cons_succ]
      refine wpAnyH_takeD (i := 7) (v := ?_) rfl (by kernel_rfl) (by kernel_rfl) (by kernel_rfl) (fun _ _ _ h => h) (Or.inl ⟨by kernel_rfl, ?_⟩) hS ?_
      rotate_left 1
      · (intro w' hSw; (try dsimp only at hSw); go_simp; try (with_reducible rfl))
      try simp only [Act.put, List.setIfInBounds_toArray, List.set_cons_zero, List.set_cons_succ]
      refine wpAnyH_oneD (i := 8) rfl (by kernel_rfl) (fun K hK => ?_)
      go_simp
      refine (pHolds_any A A1 A2 c n1 c1 n2 c2 f st lo _ B B (HFA.out.below hbd hB0) (HWA.out.below hbd hB0) (Nat.le_trans hB0 hbd.size) (Nat.le_trans hB0 hbd.size) (by omega) (by omega)).mono ?_
      rw [HHH.out]
      rintro e Aw1 ⟨rfl, hbAw1'⟩
      have hbAw1 : Below w0.heap.size w0 Aw1 := hbd.trans (hbAw1'.mono hbd.size)
      have hzAw1 := hbAw1.size
      have aAw1_0 := (hbAw1.cell (p := ⟨w.heap.size, 0, none⟩) hzq).trans q0
      have aAw1_1 := (hbAw1.cell (p := ⟨w.heap.size, 1, none⟩) hzq).trans q1
      have aAw1_2 := (hbAw1.cell (p := ⟨g, NR1, none⟩) hzg).trans g0
      have aAw1_3 := (hbAw1.cell (p := ⟨bi, oi, none⟩) hzb).trans b0
      have aAw1_4 := (hbAw1.cell (p := ⟨bi, oi + k, none⟩) hzb).trans b1
      have aAw1_5 := (hbAw1.cell (p := ⟨hx, 0, none⟩) hzx).trans x0
      have aAw1_6 := (hbAw1.cell (p := ⟨hx, 1, none⟩) hzx).trans x1
      go_wp2_with fail
      refine hK.out _ _ ⟨aAw1_0, aAw1_1, aAw1_2, aAw1_3, aAw1_4, aAw1_5, aAw1_6⟩ (fun hS => ?_)
      clear hK
      try simp only [Act.put, List.setIfInBounds_toArray, List.set_cons_zero, List.set_cons_succ]
      refine wpAnyH_takeD (i := 9) (v := ?_) rfl (by kernel_rfl) (by kernel_rfl) (by kernel_rfl) (fun _ _ _ h => h) (Or.inl ⟨by kernel_rfl, ?_⟩) hS ?_
      rotate_left 1
      · (intro w' hSw; (try dsimp only at hSw); go_simp; try (with_reducible rfl))
      try simp only [Act.put, List.setIfInBounds_toArray, List.set_cons_zero, List.set_cons_succ]
      refine wpAnyH_takeD (i := 10) (v := ?_) rfl (by kernel_rfl) (by kernel_rfl) (by kernel_rfl) (fun _ _ _ h => h) (Or.inl ⟨by kernel_rfl, ?_⟩) hS ?_
      rotate_left 1
      · (intro w' hSw; (try dsimp only at hSw); go_simp; try (with_reducible rfl))
      try simp only [Act.put, List.setIfInBounds_toArray, List.set_cons_zero, List.set_cons_succ]
      refine wpAnyH_done (by kernel_rfl) ?_ _
      have HFAn := Lib.hid (HFA.out.below hbAw1 hB0)
      have HWAn := Lib.hid (HWA.out.below hbAw1 hB0)
      have HXAn := Lib.hid ((HXA.out.below hbAw1 (Nat.le_refl _)).up hbAw1.size)
      have HBAn := Lib.hid (HBA.out.trans (hbAw1.mono HBA.out.size))
      have hzqn := Nat.lt_of_lt_of_le hzq hbAw1.size
      have hzgn := Nat.lt_of_lt_of_le hzg hbAw1.size
      have hzbn := Nat.lt_of_lt_of_le hzb hbAw1.size
      have hzxn := Nat.lt_of_lt_of_le hzx hbAw1.size
      have hB0n := Nat.le_trans hB0 hbAw1.size
      have q0n := aAw1_0
      have q1n := aAw1_1
      have g0n := aAw1_2
      have b0n := aAw1_3
      have b1n := aAw1_4
      have x0n := aAw1_5
      have x1n := aAw1_6
      clear hS hbd hbAw1' aAw1_6 aAw1_5 aAw1_4 aAw1_3 aAw1_2 aAw1_1 aAw1_0 hzAw1 hbAw1
      clear HFA HWA HXA HBA hzq hzg hzb hzx hB0 q0 q1 g0 b0 b1 x0 x1
      obtain ⟨w0, rfl⟩ : ∃ X, X = Aw1 := ⟨_, rfl⟩
      have HFA := HFAn
      have HWA := HWAn
      have HXA := HXAn
      have HBA := HBAn
      have hzq := hzqn
      have hzg := hzgn
      have hzb := hzbn
      have hzx := hzxn
      have hB0 := hB0n
      have q0 := q0n
      have q1 := q1n
      have g0 := g0n
      have b0 := b0n
      have b1 := b1n
      have x0 := x0n
      have x1 := x1n
      clear HFAn HWAn HXAn HBAn hzqn hzgn hzbn hzxn hB0n q0n q1n g0n b0n b1n x0n x1n
      have hhe : (hh != hh) = false := by simp
      have hse : (sh != sh) = false := by simp
      have hNN : (((N : Nat) : Int) != (N : Int)) = false := by simp
      go_wp2_with fail
      have hbd : Below w0.heap.size w0 w0.drew := Below.drew (Below.refl _ _)
      refine wp_region_held_drew (S := fun w' => w'.cell? ⟨w.heap.size, 0, none⟩ = some (.slice A1 n1 c1) ∧ w'.cell? ⟨w.heap.size, 1, none⟩ = some (.slice A2 n2 c2) ∧ w'.cell? ⟨g, NR1, none⟩ = some (.slice (some ⟨bi, oi, none⟩) N ci) ∧ w'.cell? ⟨bi, oi, none⟩ = some (.bool hh) ∧ w'.cell? ⟨bi, oi + k, none⟩ = some (.bool sh) ∧ w'.cell? ⟨hx, 0, none⟩ = some (.slice L1 N3 e1) ∧ w'.cell? ⟨hx, 1, none⟩ = some (.slice A2 n2 c2)) (by kernel_rfl) ⟨q0, q1, g0, b0, b1, x0, x1⟩ (fun hS => ?_)
      refine wpAnyH_takeD (i := 0) (v := ?_) rfl (by kernel_rfl) (by kernel_rfl) (by kernel_rfl) (fun _ _ _ h => h) (Or.inl ⟨by kernel_rfl, ?_⟩) hS ?_
      rotate_left 1
      · (intro w' hSw; (try dsimp only at hSw); go_simp; try (with_reducible rfl))
      try simp only [Act.put, List.setIfInBounds_toArray, List.set_cons_zero, List.set_cons_succ]
      refine wpAnyH_takeD (i := 1) (v := ?_) rfl (by kernel_rfl) (by kernel_rfl) (by kernel_rfl) (fun _ _ _ h => h) (Or.inl ⟨by kernel_rfl, ?_⟩) hS ?_
      rotate_left 1
      · (intro w' hSw; (try dsimp only at hSw); go_simp; try (with_reducible rfl))
      try simp only [Act.put, List.setIfInBounds_toArray, List.set_cons_zero, List.set_cons_succ]
      refine wpAnyH_takeD (i := 2) (v := ?_) rfl (by kernel_rfl) (by kernel_rfl) (by kernel_rfl) (fun _ _ _ h => h) (Or.inl ⟨by kernel_rfl, ?_⟩) hS ?_
      rotate_left 1
      · (intro w' hSw; (try dsimp only at hSw); go_simp; try (with_reducible rfl))
      try simp only [Act.put, List.setIfInBounds_toArray, List.set_cons_zero, List.set_cons_succ]
      refine wpAnyH_oneD (i := 3) rfl (by kernel_rfl) (fun K hK => ?_)
      go_simp
      refine (HLN.out _).mono ?_
      rintro e Bw1 ⟨rfl, hbBw1'⟩
      have hbBw1 : Below w0.heap.size w0 Bw1 := hbd.trans (hbBw1'.mono hbd.size)
      have hzBw1 := hbBw1.size
      have bBw1_0 := (hbBw1.cell (p := ⟨w.heap.size, 0, none⟩) hzq).trans q0
      have bBw1_1 := (hbBw1.cell (p := ⟨w.heap.size, 1, none⟩) hzq).trans q1
      have bBw1_2 := (hbBw1.cell (p := ⟨g, NR1, none⟩) hzg).trans g0
      have bBw1_3 := (hbBw1.cell (p := ⟨bi, oi, none⟩) hzb).trans b0
      have bBw1_4 := (hbBw1.cell (p := ⟨bi, oi + k, none⟩) hzb).trans b1
      have bBw1_5 := (hbBw1.cell (p := ⟨hx, 0, none⟩) hzx).trans x0
      have bBw1_6 := (hbBw1.cell (p := ⟨hx, 1, none⟩) hzx).trans x1
      go_wp2_with fail
      refine hK.out _ _ ⟨bBw1_0, bBw1_1, bBw1_2, bBw1_3, bBw1_4, bBw1_5, bBw1_6⟩ (fun hS => ?_)
      clear hK
      try simp only [Act.put, List.setIfInBounds_toArray, List.set_cons_zero, List.set_cons_succ]
      refine wpAnyH_takeD (i := 4) (v := ?_) rfl (by kernel_rfl) (by kernel_rfl) (by kernel_rfl) (fun _ _ _ h => h) (Or.inl ⟨by kernel_rfl, ?_⟩) hS ?_
      rotate_left 1
      · (intro w' hSw; (try dsimp only at hSw); go_simp; try (with_reducible rfl))
      try simp only [Act.put, List.setIfInBounds_toArray, List.set_cons_zero, List.set_cons_succ]
      refine wpAnyH_takeD (i := 5) (v := ?_) rfl (by kernel_rfl) (by kernel_rfl) (by kernel_rfl) (fun _ _ _ h => h) (Or.inl ⟨by kernel_rfl, ?_⟩) hS ?_
      rotate_left 1
      · (intro w' hSw; (try dsimp only at hSw); go_simp; try (with_reducible rfl))
      try simp only [Act.put, List.setIfInBounds_toArray, List.set_cons_zero, List.set_cons_succ]
      refine wpAnyH_takeD (i := 6) (v := ?_) rfl (by kernel_rfl) (by kernel_rfl) (by kernel_rfl) (fun _ _ _ h => h) (Or.inl ⟨by kernel_rfl, ?_⟩) hS ?_
      rotate_left 1
      · (intro w' hSw; (try dsimp only at hSw); go_simp; try (with_reducible rfl))
      try simp only [Act.put, List.setIfInBounds_toArray, List.set_cons_zero, List.set_cons_succ]
      refine wpAnyH_takeD (i := 7) (v := ?_) rfl (by kernel_rfl) (by kernel_rfl) (by kernel_rfl) (fun _ _ _ h => h) (Or.inl ⟨by kernel_rfl, ?_⟩) hS ?_
      rotate_left 1
      · (intro w' hSw; (try dsimp only at hSw); go_simp; try (with_reducible rfl))
      try simp only [Act.put, List.setIfInBounds_toArray, List.set_cons_zero, List.set_cons_succ]
      refine wpAnyH_takeD (i := 8) (v := ?_) rfl (by kernel_rfl) (by kernel_rfl) (by kernel_rfl) (fun _ _ _ h => h) (Or.inl ⟨by kernel_rfl, ?_⟩) hS ?_
      rotate_left 1
      · (intro w' hSw; (try dsimp only at hSw); go_simp; try (with_reducible rfl))
      try simp only [Act.put, List.setIfInBounds_toArray, List.set_cons_zero, List.set_cons_succ]
      refine wpAnyH_takeD (i := 9) (v := ?_) rfl (by kernel_rfl) (by kernel_rfl) (by kernel_rfl) (fun _ _ _ h => h) (Or.inl ⟨by kernel_rfl, ?_⟩) hS ?_
      rotate_left 1
      · (intro w' hSw; (try dsimp only at hSw); go_simp; try (with_reducible rfl))
      try simp only [Act.put, List.setIfInBounds_toArray, List.set_cons_zero, List.set_cons_succ]
      refine wpAnyH_takeD (i := 10) (v := ?_) rfl (by kernel_rfl) (by kernel_rfl) (by kernel_rfl) (fun _ _ _ h => h) (Or.inl ⟨by kernel_rfl, ?_⟩) hS ?_
      rotate_left 1
      · (intro w' hSw; (try dsimp only at hSw); go_simp; try (with_reducible rfl))
      try simp only [Act.put, List.setIfInBounds_toArray, List.set_cons_zero, List.set_cons_succ]
      refine wpAnyH_takeD (i := 11) (v := ?_) rfl (by kernel_rfl) (by kernel_rfl) (by kernel_rfl) (fun _ _ _ h => h) (Or.inl ⟨by kernel_rfl, ?_⟩) hS ?_
      rotate_left 1
      · (intro w' hSw; (try dsimp only at hSw); go_simp; try (with_reducible rfl))
      try simp only [Act.put, List.setIfInBounds_toArray, List.set_cons_zero, List.set_cons_succ]
      refine wpAnyH_takeD (i := 12) (v := ?_) rfl (by kernel_rfl) (by kernel_rfl) (by kernel_rfl) (fun _ _ _ h => h) (Or.inl ⟨by kernel_rfl, ?_⟩) hS ?_
      rotate_left 1
      · (intro w' hSw; (try dsimp only at hSw); go_simp; try (with_reducible rfl))
      try simp only [Act.put, List.setIfInBounds_toArray, List.set_cons_zero, List.set_cons_succ]
      refine wpAnyH_takeD (i := 13) (v := ?_) rfl (by kernel_rfl) (by kernel_rfl) (by kernel_rfl) (fun _ _ _ h => h) (Or.inl ⟨by kernel_rfl, ?_⟩) hS ?_
      rotate_left 1
      · (intro w' hSw; (try dsimp only at hSw); go_simp; try (with_reducible rfl))
      try simp only [Act.put, List.setIfInBounds_toArray, List.set_cons_zero, List.set_cons_succ]
      refine wpAnyH_takeD (i := 14) (v := ?_) rfl (by kernel_rfl) (by kernel_rfl) (by kernel_rfl) (fun _ _ _ h => h) (Or.inl ⟨by kernel_rfl, ?_⟩) hS ?_
      rotate_left 1
      · (intro w' hSw; (try dsimp only at hSw); go_simp; try (with_reducible rfl))
      try simp only [Act.put, List.setIfInBounds_toArray, List.set_cons_zero, List.set_cons_succ]
      refine wpAnyH_takeD (i := 15) (v := ?_) rfl (by kernel_rfl) (by kernel_rfl) (by kernel_rfl) (fun _ _ _ h => h) (Or.inl ⟨by kernel_rfl, ?_⟩) hS ?_
      rotate_left 1
      · (intro w' hSw; (try dsimp only at hSw); go_simp; try (with_reducible rfl))
      try simp only [Act.put, List.setIfInBounds_toArray, List.set_cons_zero, List.set_cons_succ]
      refine wpAnyH_takeD (i := 16) (v := ?_) rfl (by kernel_rfl) (by kernel_rfl) (by kernel_rfl) (fun _ _ _ h => h) (Or.inl ⟨by kernel_rfl, ?_⟩) hS ?_
      rotate_left 1
      · (intro w' hSw; (try dsimp only at hSw); go_simp; try (with_reducible rfl))
      try simp only [Act.put, List.setIfInBounds_toArray, List.set_cons_zero, List.set_cons_succ]
      refine wpAnyH_takeD (i := 17) (v := ?_) rfl (by kernel_rfl) (by kernel_rfl) (by kernel_rfl) (fun _ _ _ h => h) (Or.inl ⟨by kernel_rfl, ?_⟩) hS ?_
      rotate_left 1
      · (intro w' hSw; (try dsimp only at hSw); go_simp; try (with_reducible rfl))
      try simp only [Act.put, List.setIfInBounds_toArray, List.set_cons_zero, List.set_cons_succ]
      refine wpAnyH_takeD (i := 18) (v := ?_) rfl (by kernel_rfl) (by kernel_rfl) (by kernel_rfl) (fun _ _ _ h => h) (Or.inl ⟨by kernel_rfl, ?_⟩) hS ?_
      rotate_left 1
      · (intro w' hSw; (try dsimp only at hSw); go_simp; try (with_reducible rfl))
      try simp only [Act.put, List.setIfInBounds_toArray, List.set_cons_zero, List.set_cons_succ]
      refine wpAnyH_takeD (i := 19) (v := ?_) rfl (by kernel_rfl) (by kernel_rfl) (by kernel_rfl) (fun _ _ _ h => h) (Or.inl ⟨by kernel_rfl, ?_⟩) hS ?_
      rotate_left 1
      · (intro w' hSw; (try dsimp only at hSw); go_simp; try (with_reducible rfl))
      try simp only [Act.put, List.setIfInBounds_toArray, List.set_cons_zero, List.set_cons_succ]
      refine wpAnyH_oneD (i := 20) rfl (by kernel_rfl) (fun K hK => ?_)
      rw [if_pos (by kernel_rfl)]
      go_simp
      refine (pShift_any A1 A2 n1 c1 n2 c2 st lo (k : Int) _ B (HWA.out.below hbBw1 hB0) (Nat.le_trans hB0 hbBw1.size) (by omega) (by omega)).mono ?_
      rintro e WS ⟨u1, u2, rfl, ho1, ho2, hbWS'⟩
      have hbWS : Below w0.heap.size w0 WS := hbBw1.trans (hbWS'.mono hbBw1.size)
      have hzWS := hbWS.size
      have bWS_0 := (hbWS.cell (p := ⟨w.heap.size, 0, none⟩) hzq).trans q0
      have bWS_1 := (hbWS.cell (p := ⟨w.heap.size, 1, none⟩) hzq).trans q1
      have bWS_2 := (hbWS.cell (p := ⟨g, NR1, none⟩) hzg).trans g0
      have bWS_3 := (hbWS.cell (p := ⟨bi, oi, none⟩) hzb).trans b0
      have bWS_4 := (hbWS.cell (p := ⟨bi, oi + k, none⟩) hzb).trans b1
      have bWS_5 := (hbWS.cell (p := ⟨hx, 0, none⟩) hzx).trans x0
      have bWS_6 := (hbWS.cell (p := ⟨hx, 1, none⟩) hzx).trans x1
      obtain ⟨Z1, z1, rfl, hs3⟩ := own_sl ho1
      obtain ⟨Z2, z2, rfl, hs4⟩ := own_sl ho2
      have HZ := Lib.hid (And.intro hs3 hs4)
      clear ho1 ho2 hs3 hs4
      go_wp2_with fail
      refine hK.out _ _ ⟨bWS_0, bWS_1, bWS_2, bWS_3, bWS_4, bWS_5, bWS_6⟩ (fun hS => ?_)
      clear hK
      try simp only [Act.put, List.setIfInBounds_toArray, List.set_cons_zero, List.set_cons_succ]
      refine wpAnyH_oneD (i := 21) rfl (by kernel_rfl) (fun K hK => ?_)
      rw [if_pos (by kernel_rfl)]
      go_simp
      refine (pHolds_any A Z1 Z2 c _ z1 _ z2 f (shiftP st lo k).1 (shiftP st lo k).2 _ B WS.heap.size (HFA.out.below hbWS hB0) ⟨HZ.out.1, HZ.out.2, rfl, rfl⟩ (Nat.le_trans hB0 hbWS.size) (Nat.le_refl _) HSL.out (by omega)).mono ?_
      rw [HSH.out]
      rintro e Bw3 ⟨rfl, hbBw3'⟩
      have hbBw3 : Below w0.heap.size w0 Bw3 := hbWS.trans (hbBw3'.mono hbWS.size)
      have hzBw3 := hbBw3.size
      have bBw3_0 := (hbBw3.cell (p := ⟨w.heap.size, 0, none⟩) hzq).trans q0
      have bBw3_1 := (hbBw3.cell (p := ⟨w.heap.size, 1, none⟩) hzq).trans q1
      have bBw3_2 := (hbBw3.cell (p := ⟨g, NR1, none⟩) hzg).trans g0
      have bBw3_3 := (hbBw3.cell (p := ⟨bi, oi, none⟩) hzb).trans b0
      have bBw3_4 := (hbBw3.cell (p := ⟨bi, oi + k, none⟩) hzb).trans b1
      have bBw3_5 := (hbBw3.cell (p := ⟨hx, 0, none⟩) hzx).trans x0
      have bBw3_6 := (hbBw3.cell (p := ⟨hx, 1, none⟩) hzx).trans x1
      go_wp2_with fail
      refine hK.out _ _ ⟨bBw3_0, bBw3_1, bBw3_2, bBw3_3, bBw3_4, bBw3_5, bBw3_6⟩ (fun hS => ?_)
      clear hK
      try simp only [Act.put, List.setIfInBounds_toArray, List.set_cons_zero, List.set_cons_succ]
      refine wpAnyH_takeD (i := 22) (v := ?_) rfl (by kernel_rfl) (by kernel_rfl) (by kernel_rfl) (fun _ _ _ h => h) (Or.inl ⟨by kernel_rfl, ?_⟩) hS ?_
      rotate_left 1
      · (intro w' hSw; (try dsimp only at hSw); go_simp; try (with_reducible rfl))
      try simp only [Act.put, List.setIfInBounds_toArray, List.set_cons_zero, List.set_cons_succ]
      refine wpAnyH_takeD (i := 23) (v := ?_) rfl (by kernel_rfl) (by kernel_rfl) (by kernel_rfl) (fun _ _ _ h => h) (Or.inl ⟨by kernel_rfl, ?_⟩) hS ?_
      rotate_left 1
      · (intro w' hSw; (try dsimp only at hSw); go_simp; try (with_reducible rfl))
      try simp only [Act.put, List.setIfInBounds_toArray, List.set_cons_zero, List.set_cons_succ]
      refine wpAnyH_done (by kernel_rfl) ?_ _
      have HFAn := Lib.hid (HFA.out.below hbBw3 hB0)
      have HWAn := Lib.hid (HWA.out.below hbBw3 hB0)
      have HXAn := Lib.hid ((HXA.out.below hbBw3 (Nat.le_refl _)).up hbBw3.size)
      have HBAn := Lib.hid (HBA.out.trans (hbBw3.mono HBA.out.size))
      have hzqn := Nat.lt_of_lt_of_le hzq hbBw3.size
      have hzgn := Nat.lt_of_lt_of_le hzg hbBw3.size
      have hzbn := Nat.lt_of_lt_of_le hzb hbBw3.size
      have hzxn := Nat.lt_of_lt_of_le hzx hbBw3.size
      have hB0n := Nat.le_trans hB0 hbBw3.size
      have q0n := bBw3_0
      have q1n := bBw3_1
      have g0n := bBw3_2
      have b0n := bBw3_3
      have b1n := bBw3_4
      have x0n := bBw3_5
      have x1n := bBw3_6
      clear hS hbd hbBw3' bBw3_6 bBw3_5 bBw3_4 bBw3_3 bBw3_2 bBw3_1 bBw3_0 hzBw3 hbBw3 hbWS' bWS_6 bWS_5 bWS_4 bWS_3 bWS_2 bWS_1 bWS_0 hzWS hbWS hbBw1' bBw1_6 bBw1_5 bBw1_4 bBw1_3 bBw1_2 bBw1_1 bBw1_0 hzBw1 hbBw1
      clear HFA HWA HXA HBA hzq hzg hzb hzx hB0 q0 q1 g0 b0 b1 x0 x1
      clear HZ
      obtain ⟨w0, rfl⟩ : ∃ X, X = Bw3 := ⟨_, rfl⟩
      have HFA := HFAn
      have HWA := HWAn
      have HXA := HXAn
      have HBA := HBAn
      have hzq := hzqn
      have hzg := hzgn
      have hzb := hzbn
      have hzx := hzxn
      have hB0 := hB0n
      have q0 := q0n
      have q1 := q1n
      have g0 := g0n
      have b0 := b0n
      have b1 := b1n
      have x0 := x0n
      have x1 := x1n
      clear HFAn HWAn HXAn HBAn hzqn hzgn hzbn hzxn hB0n q0n q1n g0n b0n b1n x0n x1n
      have hhq : (hh == hh) = true := by simp
      have haq : (av == av) = true := by simp
      have u5 := HU5.out
      go_wp2_with fail
      have hbd : Below w0.heap.size w0 w0.drew := Below.drew (Below.refl _ _)
      refine wp_region_held_drew (S := fun w' => w'.cell? ⟨w.heap.size, 0, none⟩ = some (.slice A1 n1 c1) ∧ w'.cell? ⟨w.heap.size, 1, none⟩ = some (.slice A2 n2 c2) ∧ w'.cell? ⟨g, NR1, none⟩ = some (.slice (some ⟨bi, oi, none⟩) N ci) ∧ w'.cell? ⟨bi, oi, none⟩ = some (.bool hh) ∧ w'.cell? ⟨bi, oi + k, none⟩ = some (.bool sh) ∧ w'.cell? ⟨hx, 0, none⟩ = some (.slice L1 N3 e1) ∧ w'.cell? ⟨hx, 1, none⟩ = some (.slice A2 n2 c2)) (by kernel_rfl) ⟨q0, q1, g0, b0, b1, x0, x1⟩ (fun hS => ?_)
      refine wpAnyH_takeD (i := 0) (v := ?_) rfl (by kernel_rfl) (by kernel_rfl) (by kernel_rfl) (fun _ _ _ h => h) (Or.inl ⟨by kernel_rfl, ?_⟩) hS ?_
      rotate_left 1
      · (intro w' hSw; (try dsimp only at hSw); go_simp; try (with_reducible rfl))
      try simp only [Act.put, List.setIfInBounds_toArray, List.set_cons_zero, List.set_cons_succ]
      refine wpAnyH_takeD (i := 1) (v := ?_) rfl (by kernel_rfl) (by kernel_rfl) (by kernel_rfl) (fun _ _ _ h => h) (Or.inl ⟨by kernel_rfl, ?_⟩) hS ?_
      rotate_left 1
      · (intro w' hSw; (try dsimp only at hSw); go_simp; try (with_reducible rfl))
      try simp only [Act.put, List.setIfInBounds_toArray, List.set_cons_zero, List.set_cons_succ]
      refine wpAnyH_takeD (i := 4) (v := ?_) rfl (by kernel_rfl) (by kernel_rfl) (by kernel_rfl) (fun _ _ _ h => h) (Or.inl ⟨by kernel_rfl, ?_⟩) hS ?_
      rotate_left 1
      · (intro w' hSw; (try dsimp only at hSw); go_simp; try (with_reducible rfl))
      try simp only [Act.put, List.setIfInBounds_toArray, List.set_cons_zero, List.set_cons_succ]
      refine wpAnyH_oneD (i := 2) rfl (by kernel_rfl) (fun K hK => ?_)
      go_simp
      refine (pNorm_any A1 A2 n1 c1 n2 c2 st lo _ B (HWA.out.below hbd hB0) (Nat.le_trans hB0 hbd.size) (by omega)).mono ?_
      rintro e WN ⟨u1, u2, rfl, ho1, ho2, hbWN'⟩
      have hbWN : Below w0.heap.size w0 WN := hbd.trans (hbWN'.mono hbd.size)
      have hzWN := hbWN.size
      have cWN_0 := (hbWN.cell (p := ⟨w.heap.size, 0, none⟩) hzq).trans q0
      have cWN_1 := (hbWN.cell (p := ⟨w.heap.size, 1, none⟩) hzq).trans q1
      have cWN_2 := (hbWN.cell (p := ⟨g, NR1, none⟩) hzg).trans g0
      have cWN_3 := (hbWN.cell (p := ⟨bi, oi, none⟩) hzb).trans b0
      have cWN_4 := (hbWN.cell (p := ⟨bi, oi + k, none⟩) hzb).trans b1
      have cWN_5 := (hbWN.cell (p := ⟨hx, 0, none⟩) hzx).trans x0
      have cWN_6 := (hbWN.cell (p := ⟨hx, 1, none⟩) hzx).trans x1
      obtain ⟨Y1, y1, rfl, hs3⟩ := own_sl ho1
      obtain ⟨Y2, y2, rfl, hs4⟩ := own_sl ho2
      have HY := Lib.hid (And.intro hs3 hs4)
      clear ho1 ho2 hs3 hs4
      go_wp2_with fail
      refine hK.out _ _ ⟨cWN_0, cWN_1, cWN_2, cWN_3, cWN_4, cWN_5, cWN_6⟩ (fun hS => ?_)
      clear hK
      try simp only [Act.put, List.setIfInBounds_toArray, List.set_cons_zero, List.set_cons_succ]
      refine wpAnyH_oneD (i := 3) rfl (by kernel_rfl) (fun K hK => ?_)
      go_simp
      refine (pHolds_any A Y1 Y2 c _ y1 _ y2 f (normP st lo).1 (normP st lo).2 _ B WN.heap.size (HFA.out.below hbWN hB0) ⟨HY.out.1, HY.out.2, rfl, rfl⟩ (Nat.le_trans hB0 hbWN.size) (Nat.le_refl _) HNL.out (by omega)).mono ?_
      rw [HHN.out]
      rintro e Cw2 ⟨rfl, hbCw2'⟩
      have hbCw2 : Below w0.heap.size w0 Cw2 := hbWN.trans (hbCw2'.mono hbWN.size)
      have hzCw2 := hbCw2.size
      have cCw2_0 := (hbCw2.cell (p := ⟨w.heap.size, 0, none⟩) hzq).trans q0
      have cCw2_1 := (hbCw2.cell (p := ⟨w.heap.size, 1, none⟩) hzq).trans q1
      have cCw2_2 := (hbCw2.cell (p := ⟨g, NR1, none⟩) hzg).trans g0
      have cCw2_3 := (hbCw2.cell (p := ⟨bi, oi, none⟩) hzb).trans b0
      have cCw2_4 := (hbCw2.cell (p := ⟨bi, oi + k, none⟩) hzb).trans b1
      have cCw2_5 := (hbCw2.cell (p := ⟨hx, 0, none⟩) hzx).trans x0
      have cCw2_6 := (hbCw2.cell (p := ⟨hx, 1, none⟩) hzx).trans x1
      go_wp2_with fail
      refine hK.out _ _ ⟨cCw2_0, cCw2_1, cCw2_2, cCw2_3, cCw2_4, cCw2_5, cCw2_6⟩ (fun hS => ?_)
      clear hK
      try simp only [Act.put, List.setIfInBounds_toArray, List.set_cons_zero, List.set_cons_succ]
      refine wpAnyH_takeD (i := 5) (v := ?_) rfl (by kernel_rfl) (by kernel_rfl) (by kernel_rfl) (fun _ _ _ h => h) (Or.inl ⟨by kernel_rfl, ?_⟩) hS ?_
      rotate_left 1
      · (intro w' hSw; (try dsimp only at hSw); go_simp; try (with_reducible rfl))
      try simp only [Act.put, List.setIfInBounds_toArray, List.set_cons_zero, List.set_cons_succ]
      refine wpAnyH_takeD (i := 6) (v := ?_) rfl (by kernel_rfl) (by kernel_rfl) (by kernel_rfl) (fun _ _ _ h => h) (Or.inl ⟨by kernel_rfl, ?_⟩) hS ?_
      rotate_left 1
      · (intro w' hSw; (try dsimp only at hSw); go_simp; try (with_reducible rfl))
      try simp only [Act.put, List.setIfInBounds_toArray, List.set_cons_zero, List.set_cons_succ]
      refine wpAnyH_takeD (i := 7) (v := ?_) rfl (by kernel_rfl) (by kernel_rfl) (by kernel_rfl) (fun _ _ _ h => h) (Or.inl ⟨by kernel_rfl, ?_⟩) hS ?_
      rotate_left 1
      · (intro w' hSw; (try dsimp only at hSw); go_simp; try (with_reducible rfl))
      try simp only [Act.put, List.setIfInBounds_toArray, List.set_cons_zero, List.set_cons_succ]
      refine wpAnyH_takeD (i := 8) (v := ?_) rfl (by kernel_rfl) (by kernel_rfl) (by kernel_rfl) (fun _ _ _ h => h) (Or.inl ⟨by kernel_rfl, ?_⟩) hS ?_
      rotate_left 1
      · (intro w' hSw; (try dsimp only at hSw); go_simp; try (with_reducible rfl))
      try simp only [Act.put, List.setIfInBounds_toArray, List.set_cons_zero, List.set_cons_succ]
      refine wpAnyH_takeD (i := 10) (v := ?_) rfl (by kernel_rfl) (by kernel_rfl) (by kernel_rfl) (fun _ _ _ h => h) (Or.inl ⟨by kernel_rfl, ?_⟩) hS ?_
      rotate_left 1
      · (intro w' hSw; (try dsimp only at hSw); go_simp; try (with_reducible rfl))
      try simp only [Act.put, List.setIfInBounds_toArray, List.set_cons_zero, List.set_cons_succ]
      refine wpAnyH_oneD (i := 9) rfl (by kernel_rfl) (fun K hK => ?_)
      rw [if_pos (by kernel_rfl)]
      go_simp
      refine (pHolds_any A L1 A2 c N3 e1 n2 c2 f (st ++ lo) lo _ B w0.heap.size (HFA.out.below hbCw2 hB0) ⟨(HXA.out.below hbCw2 (Nat.le_refl _)), ((HWA.out.s2.below hbCw2 hB0).up (Nat.le_trans hB0 (Nat.le_refl _))), HN3.out, HWA.out.l2⟩ (Nat.le_trans hB0 hbCw2.size) hbCw2.size (by omega) (by omega)).mono ?_
      rw [HHL.out]
      rintro e Cw3 ⟨rfl, hbCw3'⟩
      have hbCw3 : Below w0.heap.size w0 Cw3 := hbCw2.trans (hbCw3'.mono hbCw2.size)
      have hzCw3 := hbCw3.size
      have cCw3_0 := (hbCw3.cell (p := ⟨w.heap.size, 0, none⟩) hzq).trans q0
      have cCw3_1 := (hbCw3.cell (p := ⟨w.heap.size, 1, none⟩) hzq).trans q1
      have cCw3_2 := (hbCw3.cell (p := ⟨g, NR1, none⟩) hzg).trans g0
      have cCw3_3 := (hbCw3.cell (p := ⟨bi, oi, none⟩) hzb).trans b0
      have cCw3_4 := (hbCw3.cell (p := ⟨bi, oi + k, none⟩) hzb).trans b1
      have cCw3_5 := (hbCw3.cell (p := ⟨hx, 0, none⟩) hzx).trans x0
      have cCw3_6 := (hbCw3.cell (p := ⟨hx, 1, none⟩) hzx).trans x1
      go_wp2_with fail
      refine hK.out _ _ ⟨cCw3_0, cCw3_1, cCw3_2, cCw3_3, cCw3_4, cCw3_5, cCw3_6⟩ (fun hS => ?_)
      clear hK
      try simp only [Act.put, List.setIfInBounds_toArray, List.set_cons_zero, List.set_cons_succ]
      refine wpAnyH_takeD (i := 11) (v := ?_) rfl (by kernel_rfl) (by kernel_rfl) (by kernel_rfl) (fun _ _ _ h => h) (Or.inl ⟨by kernel_rfl, ?_⟩) hS ?_
      rotate_left 1
      · (intro w' hSw; (try dsimp only at hSw); go_simp; try (with_reducible rfl))
      try simp only [Act.put, List.setIfInBounds_toArray, List.set_cons_zero, List.set_cons_succ]
      refine wpAnyH_takeD (i := 12) (v := ?_) rfl (by kernel_rfl) (by kernel_rfl) (by kernel_rfl) (fun _ _ _ h => h) (Or.inl ⟨by kernel_rfl, ?_⟩) hS ?_
      rotate_left 1
      · (intro w' hSw; (try dsimp only at hSw); go_simp; try (with_reducible rfl))
      try simp only [Act.put, List.setIfInBounds_toArray, List.set_cons_zero, List.set_cons_succ]
      refine wpAnyH_takeD (i := 13) (v := ?_) rfl (by kernel_rfl) (by kernel_rfl) (by kernel_rfl) (fun _ _ _ h => h) (Or.inl ⟨by kernel_rfl, ?_⟩) hS ?_
      rotate_left 1
      · (intro w' hSw; (try dsimp only at hSw); go_simp; try (with_reducible rfl))
      try simp only [Act.put, List.setIfInBounds_toArray, List.set_cons_zero, List.set_cons_succ]
      refine wpAnyH_takeD (i := 14) (v := ?_) rfl (by kernel_rfl) (by kernel_rfl) (by kernel_rfl) (fun _ _ _ h => h) (Or.inl ⟨by kernel_rfl, ?_⟩) hS ?_
      rotate_left 1
      · (intro w' hSw; (try dsimp only at hSw); go_simp; try (with_reducible rfl))
      try simp only [Act.put, List.setIfInBounds_toArray, List.set_cons_zero, List.set_cons_succ]
      refine wpAnyH_takeD (i := 15) (v := ?_) rfl (by kernel_rfl) (by kernel_rfl) (by kernel_rfl) (fun _ _ _ h => h) (Or.inl ⟨by kernel_rfl, ?_⟩) hS ?_
      rotate_left 1
      · (intro w' hSw; (try dsimp only at hSw); go_simp; try (with_reducible rfl))
      try simp only [Act.put, List.setIfInBounds_toArray, List.set_cons_zero, List.set_cons_succ]
      refine wpAnyH_oneD (i := 16) rfl (by kernel_rfl) (fun K hK => ?_)
      rw [if_pos (by kernel_rfl)]
      go_simp
      refine (pSame_any A1 A2 L1 A2 n1 c1 n2 c2 N3 e1 n2 c2 st lo (st ++ lo) lo _ w0.heap.size ((HWA.out.below hbCw3 hB0).up hB0) ⟨(HXA.out.below hbCw3 (Nat.le_refl _)), ((HWA.out.s2.below hbCw3 hB0).up (Nat.le_trans hB0 (Nat.le_refl _))), HN3.out, HWA.out.l2⟩ hbCw3.size (by omega) (by omega)).mono ?_
      rw [HSL2.out]
      rintro e Cw4 ⟨rfl, hbCw4'⟩
      have hbCw4 : Below w0.heap.size w0 Cw4 := hbCw3.trans (hbCw4'.mono hbCw3.size)
      have hzCw4 := hbCw4.size
      have cCw4_0 := (hbCw4.cell (p := ⟨w.heap.size, 0, none⟩) hzq).trans q0
      have cCw4_1 := (hbCw4.cell (p := ⟨w.heap.size, 1, none⟩) hzq).trans q1
      have cCw4_2 := (hbCw4.cell (p := ⟨g, NR1, none⟩) hzg).trans g0
      have cCw4_3 := (hbCw4.cell (p := ⟨bi, oi, none⟩) hzb).trans b0
      have cCw4_4 := (hbCw4.cell (p := ⟨bi, oi + k, none⟩) hzb).trans b1
      have cCw4_5 := (hbCw4.cell (p := ⟨hx, 0, none⟩) hzx).trans x0
      have cCw4_6 := (hbCw4.cell (p := ⟨hx, 1, none⟩) hzx).trans x1
      go_wp2_with fail
      refine hK.out _ _ ⟨cCw4_0, cCw4_1, cCw4_2, cCw4_3, cCw4_4, cCw4_5, cCw4_6⟩ (fun hS => ?_)
      clear hK
      try simp only [Act.put, List.setIfInBounds_toArray, List.set_cons_zero, List.set_cons_succ]
      refine wpAnyH_takeD (i := 17) (v := ?_) rfl (by kernel_rfl) (by kernel_rfl) (by kernel_rfl) (fun _ _ _ h => h) (Or.inl ⟨by kernel_rfl, ?_⟩) hS ?_
      rotate_left 1
      · (intro w' hSw; (try dsimp only at hSw); go_simp; try (with_reducible rfl))
      try simp only [Act.put, List.setIfInBounds_toArray, List.set_cons_zero, List.set_cons_succ]
      refine wpAnyH_takeD (i := 18) (v := ?_) rfl (by kernel_rfl) (by kernel_rfl) (by kernel_rfl) (fun _ _ _ h => h) (Or.inl ⟨by kernel_rfl, ?_⟩) hS ?_
      rotate_left 1
      · (intro w' hSw; (try dsimp only at hSw); go_simp; try (with_reducible rfl))
      try simp only [Act.put, List.setIfInBounds_toArray, List.set_cons_zero, List.set_cons_succ]
      refine wpAnyH_takeD (i := 19) (v := ?_) rfl (by kernel_rfl) (by kernel_rfl) (by kernel_rfl) (fun _ _ _ h => h) (Or.inl ⟨by kernel_rfl, ?_⟩) hS ?_
      rotate_left 1
      · (intro w' hSw; (try dsimp only at hSw); go_simp; try (with_reducible rfl))
      try simp only [Act.put, List.setIfInBounds_toArray, List.set_cons_zero, List.set_cons_succ]
      refine wpAnyH_takeD (i := 20) (v := ?_) rfl (by kernel_rfl) (by kernel_rfl) (by kernel_rfl) (fun _ _ _ h => h) (Or.inl ⟨by kernel_rfl, ?_⟩) hS ?_
      rotate_left 1
      · (intro w' hSw; (try dsimp only at hSw); go_simp; try (with_reducible rfl))
      try simp only [Act.put, List.setIfInBounds_toArray, List.set_cons_zero, List.set_cons_succ]
      refine wpAnyH_takeD (i := 23) (v := ?_) rfl (by kernel_rfl) (by kernel_rfl) (by kernel_rfl) (fun _ _ _ h => h) (Or.inl ⟨by kernel_rfl, ?_⟩) hS ?_
      rotate_left 1
      · (intro w' hSw; (try dsimp only at hSw); go_simp; try (with_reducible rfl))
      try simp only [Act.put, List.setIfInBounds_toArray, List.set_cons_zero, List.set_cons_succ]
      refine wpAnyH_takeD (i := 24) (v := ?_) rfl (by kernel_rfl) (by kernel_rfl) (by kernel_rfl) (fun _ _ _ h => h) (Or.inl ⟨by kernel_rfl, ?_⟩) hS ?_
      rotate_left 1
      · (intro w' hSw; (try dsimp only at hSw); go_simp; try (with_reducible rfl))
      try simp only [Act.put, List.setIfInBounds_toArray, List.set_cons_zero, List.set_cons_succ]
      refine wpAnyH_takeD (i := 25) (v := ?_) rfl (by kernel_rfl) (by kernel_rfl) (by kernel_rfl) (fun _ _ _ h => h) (Or.inl ⟨by kernel_rfl, ?_⟩) hS ?_
      rotate_left 1
      · (intro w' hSw; (try dsimp only at hSw); go_simp; try (with_reducible rfl))
      try simp only [Act.put, List.setIfInBounds_toArray, List.set_cons_zero, List.set_cons_succ]
      refine wpAnyH_oneD (i := 21) rfl (by kernel_rfl) (fun K hK => ?_)
      rw [if_pos (by kernel_rfl)]
      go_simp
      refine (pShift_any A1 A2 n1 c1 n2 c2 st lo (k : Int) _ B (HWA.out.below hbCw4 hB0) (Nat.le_trans hB0 hbCw4.size) (by omega) (by omega)).mono ?_
      rintro e WT ⟨u1, u2, rfl, ho1, ho2, hbWT'⟩
      have hbWT : Below w0.heap.size w0 WT := hbCw4.trans (hbWT'.mono hbCw4.size)
      have hzWT := hbWT.size
      have cWT_0 := (hbWT.cell (p := ⟨w.heap.size, 0, none⟩) hzq).trans q0
      have cWT_1 := (hbWT.cell (p := ⟨w.heap.size, 1, none⟩) hzq).trans q1
      have cWT_2 := (hbWT.cell (p := ⟨g, NR1, none⟩) hzg).trans g0
      have cWT_3 := (hbWT.cell (p := ⟨bi, oi, none⟩) hzb).trans b0
      have cWT_4 := (hbWT.cell (p := ⟨bi, oi + k, none⟩) hzb).trans b1
      have cWT_5 := (hbWT.cell (p := ⟨hx, 0, none⟩) hzx).trans x0
      have cWT_6 := (hbWT.cell (p := ⟨hx, 1, none⟩) hzx).trans x1
      obtain ⟨Z1, z1, rfl, hs3⟩ := own_sl ho1
      obtain ⟨Z2, z2, rfl, hs4⟩ := own_sl ho2
      have HZ := Lib.hid (And.intro hs3 hs4)
      clear ho1 ho2 hs3 hs4
      go_wp2_with fail
      refine hK.out _ _ ⟨cWT_0, cWT_1, cWT_2, cWT_3, cWT_4, cWT_5, cWT_6⟩ (fun hS => ?_)
      clear hK
      try simp only [Act.put, List.setIfInBounds_toArray, List.set_cons_zero, List.set_cons_succ]
      refine wpAnyH_oneD (i := 22) rfl (by kernel_rfl) (fun K hK => ?_)
      rw [if_pos (by kernel_rfl)]
      go_simp
      refine (pAt_any Z1 Z2 _ z1 _ z2 (shiftP st lo k).1 (shiftP st lo k).2 5 _ WT.heap.size ⟨HZ.out.1, HZ.out.2, rfl, rfl⟩ (Nat.le_refl _) HSL.out (by omega)).mono ?_
      rw [HAS.out]
      rintro e Cw6 ⟨rfl, hbCw6'⟩
      have hbCw6 : Below w0.heap.size w0 Cw6 := hbWT.trans (hbCw6'.mono hbWT.size)
      have hzCw6 := hbCw6.size
      have cCw6_0 := (hbCw6.cell (p := ⟨w.heap.size, 0, none⟩) hzq).trans q0
      have cCw6_1 := (hbCw6.cell (p := ⟨w.heap.size, 1, none⟩) hzq).trans q1
      have cCw6_2 := (hbCw6.cell (p := ⟨g, NR1, none⟩) hzg).trans g0
      have cCw6_3 := (hbCw6.cell (p := ⟨bi, oi, none⟩) hzb).trans b0
      have cCw6_4 := (hbCw6.cell (p := ⟨bi, oi + k, none⟩) hzb).trans b1
      have cCw6_5 := (hbCw6.cell (p := ⟨hx, 0, none⟩) hzx).trans x0
      have cCw6_6 := (hbCw6.cell (p := ⟨hx, 1, none⟩) hzx).trans x1
      go_wp2_with fail
      refine hK.out _ _ ⟨cCw6_0, cCw6_1, cCw6_2, cCw6_3, cCw6_4, cCw6_5, cCw6_6⟩ (fun hS => ?_)
      clear hK
      try simp only [Act.put, List.setIfInBounds_toArray, List.set_cons_zero, List.set_cons_succ]
      refine wpAnyH_oneD (i := 26) rfl (by kernel_rfl) (fun K hK => ?_)
      rw [if_pos (by kernel_rfl)]
      go_simp
      refine (pAt_any A1 A2 n1 c1 n2 c2 st lo (k5 : Int) _ B (HWA.out.below hbCw6 hB0) (Nat.le_trans hB0 hbCw6.size) (by omega) (by omega)).mono ?_
      rw [HAK.out]
      rintro e Cw7 ⟨rfl, hbCw7'⟩
      have hbCw7 : Below w0.heap.size w0 Cw7 := hbCw6.trans (hbCw7'.mono hbCw6.size)
      have hzCw7 := hbCw7.size
      have cCw7_0 := (hbCw7.cell (p := ⟨w.heap.size, 0, none⟩) hzq).trans q0
      have cCw7_1 := (hbCw7.cell (p := ⟨w.heap.size, 1, none⟩) hzq).trans q1
      have cCw7_2 := (hbCw7.cell (p := ⟨g, NR1, none⟩) hzg).trans g0
      have cCw7_3 := (hbCw7.cell (p := ⟨bi, oi, none⟩) hzb).trans b0
      have cCw7_4 := (hbCw7.cell (p := ⟨bi, oi + k, none⟩) hzb).trans b1
      have cCw7_5 := (hbCw7.cell (p := ⟨hx, 0, none⟩) hzx).trans x0
      have cCw7_6 := (hbCw7.cell (p := ⟨hx, 1, none⟩) hzx).trans x1
      go_wp2_with fail
      refine hK.out _ _ ⟨cCw7_0, cCw7_1, cCw7_2, cCw7_3, cCw7_4, cCw7_5, cCw7_6⟩ (fun hS => ?_)
      clear hK
      try simp only [Act.put, List.setIfInBounds_toArray, List.set_cons_zero, List.set_cons_succ]
      refine wpAnyH_takeD (i := 27) (v := ?_) rfl (by kernel_rfl) (by kernel_rfl) (by kernel_rfl) (fun _ _ _ h => h) (Or.inl ⟨by kernel_rfl, ?_⟩) hS ?_
      rotate_left 1
      · (intro w' hSw; (try dsimp only at hSw); go_simp; try (with_reducible rfl))
      try simp only [Act.put, List.setIfInBounds_toArray, List.set_cons_zero, List.set_cons_succ]
      refine wpAnyH_takeD (i := 28) (v := ?_) rfl (by kernel_rfl) (by kernel_rfl) (by kernel_rfl) (fun _ _ _ h => h) (Or.inl ⟨by kernel_rfl, ?_⟩) hS ?_
      rotate_left 1
      · (intro w' hSw; (try dsimp only at hSw); go_simp; try (with_reducible rfl))
      try simp only [Act.put, List.setIfInBounds_toArray, List.set_cons_zero, List.set_cons_succ]
      refine wpAnyH_takeD (i := 29) (v := ?_) rfl (by kernel_rfl) (by kernel_rfl) (by kernel_rfl) (fun _ _ _ h => h) (Or.inl ⟨by kernel_rfl, ?_⟩) hS ?_
      rotate_left 1
      · (intro w' hSw; (try dsimp only at hSw); go_simp; try (with_reducible rfl))
      try simp only [Act.put, List.setIfInBounds_toArray, List.set_cons_zero, List.set_cons_succ]
      refine wpAnyH_oneD (i := 30) rfl (by kernel_rfl) (fun K hK => ?_)
      rw [if_pos (by kernel_rfl)]
      go_simp
      refine (wawake_any _).mono ?_
      rintro e Cw8 ⟨rfl, hbCw8'⟩
      have hbCw8 : Below w0.heap.size w0 Cw8 := hbCw7.trans (hbCw8'.mono hbCw7.size)
      have hzCw8 := hbCw8.size
      have cCw8_0 := (hbCw8.cell (p := ⟨w.heap.size, 0, none⟩) hzq).trans q0
      have cCw8_1 := (hbCw8.cell (p := ⟨w.heap.size, 1, none⟩) hzq).trans q1
      have cCw8_2 := (hbCw8.cell (p := ⟨g, NR1, none⟩) hzg).trans g0
      have cCw8_3 := (hbCw8.cell (p := ⟨bi, oi, none⟩) hzb).trans b0
      have cCw8_4 := (hbCw8.cell (p := ⟨bi, oi + k, none⟩) hzb).trans b1
      have cCw8_5 := (hbCw8.cell (p := ⟨hx, 0, none⟩) hzx).trans x0
      have cCw8_6 := (hbCw8.cell (p := ⟨hx, 1, none⟩) hzx).trans x1
      go_wp2_with fail
      refine hK.out _ _ ⟨cCw8_0, cCw8_1, cCw8_2, cCw8_3, cCw8_4, cCw8_5, cCw8_6⟩ (fun hS => ?_)
      clear hK
      try simp only [Act.put, List.setIfInBounds_toArray, List.set_cons_zero, List.set_cons_succ]
      refine wpAnyH_takeD (i := 31) (v := ?_) rfl (by kernel_rfl) (by kernel_rfl) (by kernel_rfl) (fun _ _ _ h => h) (Or.inl ⟨by kernel_rfl, ?_⟩) hS ?_
      rotate_left 1
      · (intro w' hSw; (try dsimp only at hSw); go_simp; try (with_reducible rfl))
      try simp only [Act.put, List.setIfInBounds_toArray, List.set_cons_zero, List.set_cons_succ]
      refine wpAnyH_takeD (i := 32) (v := ?_) rfl (by kernel_rfl) (by kernel_rfl) (by kernel_rfl) (fun _ _ _ h => h) (Or.inl ⟨by kernel_rfl, ?_⟩) hS ?_
      rotate_left 1
      · (intro w' hSw; (try dsimp only at hSw); go_simp; try (with_reducible rfl))
      try simp only [Act.put, List.setIfInBounds_toArray, List.set_cons_zero, List.set_cons_succ]
      refine wpAnyH_done (by kernel_rfl) ?_ _
      go_wp2
      go_ret
      exact ⟨rfl, HBA.out.trans (hbCw8.mono HBA.out.size)⟩
  · have hR : truthW (wbit st lo) f st lo = [] := by rw [truthW, if_neg (fun h => hgd h.2)]
    have hH : holdsW (wbit st lo) f st lo = false := by simp [holdsW, hR]
    rw [hR] at hG
    obtain ⟨vs1, ho1, _, _⟩ := id hG
    obtain ⟨G1, k1, rfl, _⟩ := own_sl ho1
    have he0 : (((([] : List (List Bool)).length : Nat) : Int) == 0) = true := by simp
    have hHo := pHolds_any A A1 A2 c n1 c1 n2 c2 f st lo wF w.heap.size w.heap.size HFF.out HWF.out HB2.out.size HB2.out.size (by omega) (by omega)
    rw [hH] at hHo
    clear hG ho1 hR hgd hH
    go_wp2_with fail
    refine Calls.mono hHo ?_
    rintro e w8 ⟨rfl, hb8⟩
    go_wp2_with fail
    refine (wawake_any _).mono ?_
    rintro e w9 ⟨rfl, hb9⟩
    go_wp2
    go_ret
    exact ⟨rfl, HB2.out.trans ((hb8.trans (hb9.mono hb8.size)).mono HB2.out.size)⟩
end Go.Proofs.Ytkikkplpalabhaa
