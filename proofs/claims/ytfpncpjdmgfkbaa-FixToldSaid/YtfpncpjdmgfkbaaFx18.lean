/- The walk of fix: Loop. -/
import Derived.Test.YtfpncpjdmgfkbaaFixM
namespace Go.Proofs.Ytfpncpjdmgfkbaa
open Go.RowKit Go.Maps

theorem wfI {n : Int} (h : -9223372036854775808 ≤ n) (h2 : n ≤ 9223372036854775807) : (Lit.int .i64 n).wf = true := by
  have e1 : IntKind.i64.min = -9223372036854775808 := by decide
  have e2 : IntKind.i64.max = 9223372036854775807 := by decide
  simp only [Lit.wf, e1, e2, decide_eq_true h, decide_eq_true h2, Bool.and_self]
theorem lawI : Keyed Try.prog 3 := int_keyed Try.underlying3
theorem zeroI (w : World) : (zeroValue 3).run Try.prog w = .ok (.int .i64 0) w := by kernel_rfl
theorem heap_set2 {w : World} {g : Nat} {a b x y : Value} {T : Nat} (h : w.heap[g]? = some (.cells #[a, b] T (0, 0))) : ((w.setCell ⟨g, 0, none⟩ x).setCell ⟨g, 1, none⟩ y).heap[g]? = some (.cells #[x, y] T (0, 0)) := by
  have h1 := heap_setCell_same w g 0 _ _ x h
  have h2 := heap_setCell_same _ g 1 _ _ y h1
  rw [h2]; rfl
theorem below_set2 {B : Nat} {w w' : World} {g : Nat} {x y : Value} (hg : B ≤ g) (h : Below B w w') : Below B w ((w'.setCell ⟨g, 0, none⟩ x).setCell ⟨g, 1, none⟩ y) :=
  (h.setCell (p := ⟨g, 0, none⟩) hg x).setCell (p := ⟨g, 1, none⟩) hg y
theorem tch_set2 {w : World} {g : Nat} {x y : Value} : Tch (fun k => k = g) w ((w.setCell ⟨g, 0, none⟩ x).setCell ⟨g, 1, none⟩ y) :=
  Tch.setCell (S := fun k => k = g) (p := ⟨g, 1, none⟩) (Tch.setCell (S := fun k => k = g) (p := ⟨g, 0, none⟩) (Tch.refl _ w) (fun _ => rfl) x) (fun _ => rfl) y
theorem slice_to {A : Option Addr} {n c k : Nat} (hk : k ≤ c) (w : World) : (Instr.sliceAt 22 (.slice A n c) none (some (.int .i64 (k : Int))) (some (.int .i64 (k : Int)))).run Try.prog w = .ok (.slice (if k = 0 then A else A.map (·.add (0 * 1))) k k) w := by
  rw [run_sliceAt_slice _ _ _ _ _ _ (by kernel_rfl), run_slice_hm _ _ _ _ _ (by kernel_rfl) _ _ _ _ (by omega) (by omega) (by omega)]
  have : (sizeOf (Try.prog.elem 22)).run Try.prog w = .ok 1 w := by kernel_rfl
  rw [this]
  simp [Result.andThen, sliced]
theorem slice_mid {A : Option Addr} {n c k m : Nat} {i : Int} (hi : i = m) (hk : k ≤ m) (hm : m ≤ c) (w : World) : (Instr.sliceAt 22 (.slice A n c) (some (.int .i64 (k : Int))) (some (.int .i64 i)) none).run Try.prog w = .ok (.slice (if c = k then A else A.map (·.add (k * 1))) (m - k) (c - k)) w := by
  subst hi
  rw [run_sliceAt_slice _ _ _ _ _ _ (by kernel_rfl), run_slice_lh _ _ _ _ _ (by kernel_rfl) _ _ _ _ (by omega) (by omega) (by omega)]
  have : (sizeOf (Try.prog.elem 22)).run Try.prog w = .ok 1 w := by kernel_rfl
  rw [this]
  simp [Result.andThen, sliced]
theorem Sl.to {w : World} {B n c k : Nat} {A : Option Addr} {xs : List Value} (h : Sl w B 1 A n c xs) (hk : k ≤ n) (hA : A ≠ none) : Sl w B 1 (if k = 0 then A else A.map (·.add (0 * 1))) k k (xs.take k) := by
  have h1 := h.take hk
  have hc := h.cap
  have hm := h.max
  rw [Nat.mul_one] at h1
  have he : (if k = 0 then A else A.map (·.add (0 * 1))) = A := by
    split
    · rfl
    · cases A with
      | none => rfl
      | some a => simp [Addr.add]
  rw [he]
  exact ⟨h1.len, Nat.le_refl _, by omega, fun e => absurd e hA, h1.rd⟩

/-- What Loop answers. -/
def LPost (w : World) (ne : Nat) (G : Gph) (sets : List (List Bool)) (z : List Bool) (en : Ending) (w' : World) : Prop :=
  Below w.heap.size w w' ∧ ((initB z G.init = false ∧ en = .returned (.tuple #[.agg #[.slice none 0 0, .slice none 0 0], .bool false])) ∨
    (initB z G.init = true ∧ ∃ (stem loop : List Int) (s1 s2 : Option Addr) (n1 c1 n2 c2 : Nat), en = .returned (.tuple #[.agg #[.slice s1 n1 c1, .slice s2 n2 c2], .bool true]) ∧ Sl w' w'.heap.size 1 s1 n1 c1 (icells stem) ∧ Sl w' w'.heap.size 1 s2 n2 c2 (icells loop) ∧
      IsL ne G.edges G.init sets stem loop ∧ n1 ≤ 10000000 ∧ n2 ≤ 10000000))

section
variable (ai ae al : Option Addr) (ni ci ne ce nl cl : Nat)
set_option maxHeartbeats 8000000 in
set_option maxRecDepth 100000 in
theorem floop_any (G : Gph) (sets : List (List Bool)) (As : Option Addr) (ns cs : Nat) (z : List Bool) (w : World) (B : Nat) (h : GrRd w B ai ni ci ae ne ce al nl cl G) (hs : Sl2 w B 1 As ns cs (sets.map bcells)) (hzg : Gfp G.edges (asksOf sets) z) (hB : B ≤ w.heap.size) (he : ne ≤ 100) (hi : ni ≤ 1000000) (hl : nl ≤ 17592186044416) (KE : Nat) (hr : ∀ l ∈ G.edges, l.length ≤ KE) (hK2 : KE ≤ 1000) (hns : ns ≤ 100) :
    Calls Try.prog 41 #[.agg #[.slice ai ni ci, .slice ae ne ce, .slice al nl cl], .slice As ns cs] w (LPost w ne G sets z) := by
  obtain ⟨w0, hw0, hb0, hz0, ⟨hx0, hx1, hx2⟩, ⟨hy0, hy1⟩⟩ := boxed32 w (.slice ai ni ci) (.slice ae ne ce) (.slice al nl cl) (.slice none 0 0) (.slice none 0 0) 26 51
  have hrb : w0.heap[w.heap.size + 1]? = some (.cells #[.slice none 0 0, .slice none 0 0] 51 (0, 0)) := by
    rw [hw0]; exact heap_new (by simp)
  have HW0 := Lib.hid hw0
  have h' := h.below hb0 hB
  have hs' := hs.below hb0 hB
  have hle : ne = G.edges.length := h.lens.2.1
  have hzn : ne = z.length := by rw [hzg.1, hle]
  have hli := h.lens.1
  have HLE := Lib.hid hle
  have HZN := Lib.hid hzn
  have HLI := Lib.hid hli
  have HG := Lib.hid hzg
  have HSN : Hid (ns = sets.length) := Lib.hid (by have := hs.len; simpa using this)
  have hzl : w.heap.size < w0.heap.size := by omega
  have hzr : w.heap.size + 1 < w0.heap.size := by omega
  have hB0 : B ≤ w0.heap.size := by omega
  have HX := Lib.hid (And.intro hx0 (And.intro hx1 hx2))
  have HFA := Lib.hid (ffair_any ai ae al ni ci ne ce nl cl G sets As ns cs z w0 B h' hs' hzg hB0 (by omega) KE hr hK2 (by omega))
  have hps := path_some hzg G.init
  rw [← hle] at hps
  have HPS := Lib.hid hps
  have HRB := Lib.hid hrb
  have hmm := @run_makeMap Try.prog
  clear hw0 h hs hz0 hle hzn hli hzg hy0 hy1 hps hrb
  go_enter Try.func41, Try.ntmps41
  go_wp2_with fail
  rw [← HW0.out]
  refine HFA.out.mono ?_
  rintro e w1 ⟨v1, rfl, hO1, hb1, _⟩
  obtain ⟨Az, cz, rfl, hsz⟩ := own_sl hO1
  have hz1 := hb1.size
  have x0 := (hb1.cell (p := ⟨w.heap.size, 0, none⟩) hzl).trans hx0
  have x1 := (hb1.cell (p := ⟨w.heap.size, 1, none⟩) hzl).trans hx1
  have x2 := (hb1.cell (p := ⟨w.heap.size, 2, none⟩) hzl).trans hx2
  have h1 := (h'.below hb1 hB0).up (show B ≤ w1.heap.size by omega)
  have HPA := Lib.hid (pathP_any ai ae al ni ci ne ce nl cl G G.init z ai ni ci Az ne cz w1 w1.heap.size h1 h1.hi HLI.out hsz HZN.out (Nat.le_refl _) (by omega) (by omega) (by omega) (by omega) (by omega) KE hr (by have := Nat.mul_le_mul he hK2; omega) (by omega))
  clear HFA HW0 hx0 hx1 hx2 h1
  go_wp2_with fail
  refine HPA.out.mono ?_
  rintro e w2 ⟨v2, rfl, hO2, hb2⟩
  have hz2 := hb2.size
  have hbw2 : Below w0.heap.size w0 w2 := hb1.trans (hb2.mono hz1)
  have y0 := (hbw2.cell (p := ⟨w.heap.size, 0, none⟩) hzl).trans HX.out.1
  have y1 := (hbw2.cell (p := ⟨w.heap.size, 1, none⟩) hzl).trans HX.out.2.1
  have y2 := (hbw2.cell (p := ⟨w.heap.size, 2, none⟩) hzl).trans HX.out.2.2
  have hR2 := (hbw2.block _ hzr).trans HRB.out
  obtain ⟨⟨p0, p1⟩, ⟨p2, p3⟩, p4⟩ := blk2 hR2
  clear HPA x0 x1 x2
  rcases HPS.out with ⟨hib, hp⟩ | ⟨hib, x, hxi, hxz, hp⟩
  · rw [hp]
    have HIB := Lib.hid hib
    have HF := Lib.hid (blk2 (heap_set2 (x := .slice none 0 0) (y := .slice none 0 0) hR2)).1
    have HBW := Lib.hid (hb0.trans (hbw2.mono (by omega)))
    clear hp hib hO2 hR2
    go_wp2_with fail
    refine bodyPost_ret (v := .tuple #[.agg #[.slice none 0 0, .slice none 0 0], .bool false]) ?_ rfl ?_
    · obtain ⟨f0, f1⟩ := HF.out
      simp [results, Try.results41, go_sem, f0, f1]
    · exact ⟨below_set2 (by omega) HBW.out, .inl ⟨HIB.out, rfl⟩⟩
  · rw [hp] at hO2
    rw [hp]
    have HIB := Lib.hid hib
    have HXI := Lib.hid hxi
    have HXZ := Lib.hid hxz
    have hszz := (hsz.below hb2 (Nat.le_refl _)).up (show w1.heap.size ≤ w2.heap.size by omega)
    have hGr2 := (h'.below hbw2 hB0).up (show B ≤ w2.heap.size by omega)
    have HWI := Lib.hid (withinP_any ai ae al ni ci ne ce nl cl G z Az cz w2 w2.heap.size hGr2 hszz HZN.out (Nat.le_refl _) (by omega) KE hr (by omega))
    clear hp hib hxi hxz hszz hGr2 p0 p1 p2 p3 p4 hR2
    go_wp2_with fail
    refine HWI.out.mono ?_
    rintro e w3 ⟨ai1, ni1, ci1, ae1, ne1, ce1, al1, nl1, cl1, rfl, hG3, hb3, ⟨vs, hO3⟩⟩
    obtain ⟨M1, M2, M3⟩ := hG3.lens
    have hne1 : ne1 = ne := by rw [M2]; show (withinE G.edges z).length = ne; rw [withinE_len, ← HLE.out]
    have hni1 : ni1 = 0 := M1
    have hnl1 : nl1 = 0 := M3
    have hci : ci1 ≤ maxLen := hG3.hi.max
    have hcl : cl1 ≤ maxLen := hG3.hl.max
    have HCI := Lib.hid hG3.hi.nil
    have HCL := Lib.hid hG3.hl.nil
    subst hne1 hni1 hnl1
    have hz3 := hb3.size
    clear HWI M1 M2 M3 y0 y1 y2 hG3
    have hmin : (if (ne1 : Int) ≤ 65536 then (ne1 : Int) else 65536) = (ne1 : Int) := if_pos (by omega)
    have hm1 : ((ne1 : Int) ≤ 65536) := by omega
    go_wp2_with fail
    clear hmin hm1
    obtain ⟨kk, hkk⟩ : ∃ k, k = (ne1 + 63) / 64 := ⟨_, rfl⟩
    obtain ⟨wh, hwh⟩ : ∃ W, W = w3.alloc (.cells #[.slice ai1 0 ci1, .slice ae1 ne1 ce1, .slice al1 0 cl1] 26) := ⟨_, rfl⟩
    rw [← hwh]
    refine (bnew_any ne1 kk wh (by omega) hkk).mono ?_
    rintro e w4 ⟨rfl, hw4⟩
    have hbs : BSet (wh.heap.size + 1) wh.heap.size ne1 (List.replicate kk 0) w4 := by rw [hw4]; exact BSet.start ne1 wh hkk (by omega)
    have hb4 : Below wh.heap.size wh w4 := by rw [hw4]; exact ((Below.refl _ _).alloc (Nat.le_refl _) _).alloc (by simp) _
    have hb3h : Below w3.heap.size w3 wh := by rw [hwh]; exact (Below.refl _ _).alloc (Nat.le_refl _) _
    have hbh : wh.heap[w3.heap.size]? = some (.cells #[.slice ai1 0 ci1, .slice ae1 ne1 ce1, .slice al1 0 cl1] 26 (0, 0)) := by rw [hwh]; exact heap_alloc_new _ _
    have hzh := hb3h.size
    have hz4 := hb4.size
    have hbw3 : Below w0.heap.size w0 w3 := hbw2.trans (hb3.mono (by omega))
    have hsh : w3.heap.size < wh.heap.size := by rw [hwh]; simp
    clear hw4 hwh hkk
    go_wp2
    obtain ⟨w5, hw5⟩ : ∃ W, W = w4.alloc (.map #[] 0) := ⟨_, rfl⟩
    have hb5 : Below w4.heap.size w4 w5 := by rw [hw5]; exact (Below.refl _ _).alloc (Nat.le_refl _) _
    have hmp : w5.ownsMap (H := Unit) Try.prog 3 (plainElem Try.prog 3) w4.heap.size 0 (.map []) := by rw [hw5]; exact World.ownsMap_made _ _ _ _
    have hb35 : Below w3.heap.size w3 w5 := hb3h.trans ((hb4.trans (hb5.mono hz4)).mono hzh)
    have hb25 : Below w2.heap.size w2 w5 := hb3.trans (hb35.mono hz3)
    have hLI : LI w0 ne1 z G.edges Az cz ai1 ci1 ae1 ce1 al1 cl1 vs w3.heap.size (wh.heap.size + 1) wh.heap.size w4.heap.size (List.replicate kk 0) 0 (.map []) v2 [x] w5 :=
      ⟨own_below (own_below hO1 hb2) hb25, (hO3.below hb35).rebase (by omega), ((hb4.trans (hb5.mono hz4)).block _ hsh).trans hbh, hbs.below hb5, hmp, own_base (own_below hO2 hb25) hz1, hbw3.trans (hb35.mono (by omega)), by omega, by omega⟩
    have HLI5 := Lib.hid hLI
    obtain ⟨hbk, hhbk⟩ : ∃ b, b = w3.heap.size := ⟨_, rfl⟩
    obtain ⟨Sb, hSb⟩ : ∃ b, b = wh.heap.size + 1 := ⟨_, rfl⟩
    obtain ⟨qb, hqb⟩ : ∃ b, b = wh.heap.size := ⟨_, rfl⟩
    obtain ⟨Bm, hBm⟩ : ∃ b, b = w4.heap.size := ⟨_, rfl⟩
    rw [← hhbk, ← hSb, ← hqb, ← hBm] at HLI5
    rw [← hhbk, ← hSb, ← hBm, ← hw5]
    have hne0 : 0 < ne1 := by
      obtain ⟨j, _, hj, _⟩ := hasB_iff.1 HXZ.out
      rw [HZN.out]; omega
    have HZW : Hid (ZW G.edges z [x]) := Lib.hid ⟨fun y hy => by rw [List.mem_singleton] at hy; subst hy; exact HXZ.out, Chn.one _ _⟩
    have HWN : Hid ((withinE G.edges z).length = ne1) := Lib.hid (by rw [withinE_len, HLE.out])
    clear hLI hmp hbh hbs hw5 hhbk hSb hqb hBm hO1 hO2 hO3 hsz hmm
    go_loopg [7] ne1 (fun gk v wr => ∃ (W : List Int) (ends : List Nat) (D : DataW Unit) (WB : List Nat), gk + ends.length = ne1 ∧ LI w0 ne1 z G.edges Az cz ai1 ci1 ae1 ce1 al1 cl1 vs hbk Sb qb Bm WB ends.length D v W wr ∧
      Hid (MapOk ne1 sets W ends D) ∧ Hid (ZW G.edges z W) ∧ Hid (W[0]? = some x) ∧ Hid (W.length ≤ 1 + ends.length * (1 + ns * ne1)) ∧ Hid (W ≠ []))
    case atStart => exact ⟨[x], [], .map [], List.replicate kk 0, by simp, HLI5.out, Lib.hid MapOk.start, HZW, Lib.hid rfl, Lib.hid (by simp), Lib.hid (by simp)⟩
    case round =>
      clear HLI5 HZW
      obtain ⟨W, ends, D, WB, hgk, hLI, HMO, HZW, HW0x, HWL, HWne⟩ := hrel
      have HL := Lib.hid hLI
      have hel : ends.length ≤ ne1 := HMO.out.le
      have hbr := hLI.bel
      have hszr := hbr.size
      obtain ⟨a, e, hWe⟩ : ∃ (a : List Int) (y : Int), W = a ++ [y] := ⟨W.dropLast, W.getLast HWne.out, (List.dropLast_concat_getLast HWne.out).symm⟩
      obtain ⟨Aw, cw, rfl, hsw⟩ := own_sl hLI.way
      have hxe : hasB z e = true := HZW.out.1 e (by rw [hWe]; simp)
      obtain ⟨e, rfl, hez, heb⟩ := hasB_iff.1 hxe
      obtain ⟨nW, hnW⟩ : ∃ nW, nW = W.length := ⟨_, rfl⟩
      have hnWa : nW = a.length + 1 := by rw [hnW, hWe]; simp
      have hnWb : nW ≤ 1010101 := by
        have h1 := Nat.mul_le_mul hns he
        have h2 := Nat.mul_le_mul (show ends.length ≤ 100 by omega) (show 1 + ns * ne1 ≤ 10001 by omega)
        have := HWL.out
        omega
      rw [← hnW] at hsw
      rw [← hnW]
      obtain ⟨wb, wo, hAw, hwb, hcw⟩ := hsw.rd.at_ (j := nW - 1) (u := .int .i64 (e : Int)) (by rw [hWe, icells, List.getElem?_map, List.getElem?_append_right (by omega), show nW - 1 - a.length = 0 by omega]; rfl)
      have hcap := hsw.cap
      have hne' : e < ne1 := by rw [HZN.out]; exact hez
      have hkey : keyOf Try.prog 3 (.int .i64 (e : Int)) = some (.int .i64 (e : Int)) := keyOf_int_mk Try.underlying3 (wfI (by omega) (by omega))
      have hmp := hLI.mp
      have HHK := Lib.hid (HMO.out.key e)
      have i0 : (0 : Int) ≤ (nW : Int) - 1 := by omega
      have i1 : (nW : Int) - 1 < (nW : Int) := by omega
      have i4 : ((nW : Int) - 1).toNat = nW - 1 := by omega
      have i5 : IntKind.i64.wrap ((nW : Int) - 1) = (nW : Int) - 1 := IntWalk.i64_in _ (by omega)
      have i6 : (1 : Int) ≤ (nW : Int) := by omega
      have HNW := Lib.hid (And.intro hnW (And.intro hWe hnWa))
      have HSW := Lib.hid hsw
      have hR := (hbr.block _ hzr).trans HRB.out
      have hrlt : w.heap.size + 1 < wr.heap.size := by omega
      have hzwr : w.heap.size < wr.heap.size := by omega
      clear hLI hnW hWe hnWa hsw hxe heb
      subst hAw
      by_cases hem : e ∈ ends
      · obtain ⟨k, hat1, hk1, hk2, hk3⟩ := HMO.out.at_ e hem
        have HK := Lib.hid (And.intro hat1 (And.intro hk1 (And.intro hk2 hk3)))
        have hkn : k + 1 < nW := by rw [HNW.out.1]; exact hk1
        have HHT : Hid (Maps.has D (.int .i64 (e : Int)) = true) := Lib.hid (by rw [HHK.out]; simpa using hem)
        obtain ⟨Al1, hAl1⟩ : ∃ A, A = (if k = 0 then (some (⟨wb, wo, none⟩ : Addr)) else (some (⟨wb, wo, none⟩ : Addr)).map (·.add (0 * 1))) := ⟨_, rfl⟩
        obtain ⟨Al2, hAl2⟩ : ∃ A, A = (if cw = k then (some (⟨wb, wo, none⟩ : Addr)) else (some (⟨wb, wo, none⟩ : Addr)).map (·.add (k * 1))) := ⟨_, rfl⟩
        have hsl1 : Sl wr wr.heap.size 1 Al1 k k (icells (W.take k)) := by
          have := HSW.out.to (k := k) (by omega) (by simp)
          rw [← hAl1, icells, ← List.map_take] at this
          exact this
        have hsl2 : Sl wr wr.heap.size 1 Al2 (nW - 1 - k) (cw - k) (icells ((W.drop k).take (nW - 1 - k))) := by
          have := (HSW.out.take (k := nW - 1) (by omega)).drop (k := k) (by omega)
          rw [← hAl2, Nat.mul_one, Nat.mul_one, icells, ← List.map_take, ← List.map_drop, List.drop_take] at this
          exact this
        have hsf1 : ∀ w', (Instr.sliceAt 22 (.slice (some ⟨wb, wo, none⟩) nW cw) none (some (.int .i64 (k : Int))) (some (.int .i64 (k : Int)))).run Try.prog w' = .ok (.slice Al1 k k) w' := fun w' => by
          rw [slice_to (by omega), ← hAl1]
        have hsf2 : ∀ w', (Instr.sliceAt 22 (.slice (some ⟨wb, wo, none⟩) nW cw) (some (.int .i64 (k : Int))) (some (.int .i64 ((nW : Int) - 1))) none).run Try.prog w' = .ok (.slice Al2 (nW - 1 - k) (cw - k)) w' := fun w' => by
          rw [slice_mid (m := nW - 1) (by omega) (by omega) (by omega), ← hAl2]
        have hisl : IsL ne1 G.edges G.init sets (W.take k) ((W.drop k).take (nW - 1 - k)) := by
          have := isL_of (E := G.edges) (init := G.init) (sets := sets) (z := z) (W := W) (from_ := k) (last := nW - 1) (x0 := x) (e := (e : Int)) HG.out.1 HZW.out (by rw [← HNW.out.1]; omega) (by omega) HW0x.out HXI.out HK.out.2.2.1 (by
            rw [HNW.out.2.1, List.getElem?_append_right (by have := HNW.out.2.2; omega), show nW - 1 - a.length = 0 by have := HNW.out.2.2; omega]; rfl) HK.out.2.2.2
          rw [← HLE.out] at this; exact this
        have HIS := Lib.hid hisl
        have HSL1 := Lib.hid hsl1
        have HSL2 := Lib.hid hsl2
        have HSF1 := Lib.hid hsf1
        have HSF2 := Lib.hid hsf2
        have HRR := Lib.hid hR
        have HA1 := Lib.hid hAl1
        clear hat1 hk1 hk2 hk3 hAl1 hAl2 hsl1 hsl2 hsf1 hsf2 hisl hem hR
        go_wp2_with (at_lookup; refine wpList_lookup_own_ok_int _ rfl (.tmp 44) (.tmp 45) 79 rfl 3 3 .i64 lawI Try.underlying79 Try.underlying3 (zeroI _) Bm ends.length D rfl hmp _ _ rfl hkey ?_; intro c hat hwc; rw [HHT.out]; obtain rfl : c = (k : Int) := (by have h9 := hat.symm.trans HK.out.1; simpa using h9); clear hat hwc)
        have g1 := HSF1.out
        have g2 := HSF2.out
        have j0 : (0 : Int) ≤ (k : Int) := by omega
        have HBW := Lib.hid (hb0.trans (hbr.mono (show w.heap.size ≤ w0.heap.size by omega)))
        refine wp_region_held_drew (S := fun w' => True ∧ True) (by kernel_rfl) ⟨trivial, trivial⟩ (fun hS => ?_)
        refine wpAnyH_takeD (i := 0) (v := ?_) rfl (by kernel_rfl) (by kernel_rfl) (by kernel_rfl) (fun _ _ _ h => h) (Or.inl ⟨by kernel_rfl, ?_⟩) hS ?_
        rotate_left 1
        · (intro w' hSw; (try dsimp only at hSw); go_simp; try (with_reducible rfl))
        try simp only [Act.put, List.setIfInBounds_toArray, List.set_cons_zero, List.set_cons_succ]
        refine wpAnyH_takeD (i := 1) (v := ?_) rfl (by kernel_rfl) (by kernel_rfl) (by kernel_rfl) (fun _ _ _ h => h) (Or.inl ⟨by kernel_rfl, ?_⟩) hS ?_
        rotate_left 1
        · (intro w' hSw; (try dsimp only at hSw); go_simp; try (with_reducible rfl))
        try simp only [Act.put, List.setIfInBounds_toArray, List.set_cons_zero, List.set_cons_succ]
        refine wpAnyH_takeD (i := 2) (v := ?_) rfl (by kernel_rfl) (by kernel_rfl) (by kernel_rfl) (fun _ _ _ h => h) (Or.inl ⟨by kernel_rfl, ?_⟩) hS ?_
        rotate_left 1
        · (intro w' hSw; (try dsimp only at hSw); go_simp; try (with_reducible rfl))
        try simp only [Act.put, List.setIfInBounds_toArray, List.set_cons_zero, List.set_cons_succ]
        refine wpAnyH_takeD (i := 3) (v := ?_) rfl (by kernel_rfl) (by kernel_rfl) (by kernel_rfl) (fun _ _ _ h => h) (Or.inl ⟨by kernel_rfl, ?_⟩) hS ?_
        rotate_left 1
        · (intro w' hSw; (try dsimp only at hSw); go_simp; try (with_reducible rfl))
        try simp only [Act.put, List.setIfInBounds_toArray, List.set_cons_zero, List.set_cons_succ]
        refine wpAnyH_takeD (i := 4) (v := ?_) rfl (by kernel_rfl) (by kernel_rfl) (by kernel_rfl) (fun _ _ _ h => h) (Or.inl ⟨by kernel_rfl, ?_⟩) hS ?_
        rotate_left 1
        · (intro w' hSw; (try dsimp only at hSw); go_simp; try (with_reducible rfl))
        try simp only [Act.put, List.setIfInBounds_toArray, List.set_cons_zero, List.set_cons_succ]
        refine wpAnyH_takeD (i := 5) (v := ?_) rfl (by kernel_rfl) (by kernel_rfl) (by kernel_rfl) (fun _ _ _ h => h) (Or.inl ⟨by kernel_rfl, ?_⟩) hS ?_
        rotate_left 1
        · (intro w' hSw; (try dsimp only at hSw); go_simp; try (with_reducible rfl))
        try simp only [Act.put, List.setIfInBounds_toArray, List.set_cons_zero, List.set_cons_succ]
        refine wpAnyH_takeD (i := 6) (v := ?_) rfl (by kernel_rfl) (by kernel_rfl) (by kernel_rfl) (fun _ _ _ h => h) (Or.inl ⟨by kernel_rfl, ?_⟩) hS ?_
        rotate_left 1
        · (intro w' hSw; (try dsimp only at hSw); go_simp; try (with_reducible rfl))
        try simp only [Act.put, List.setIfInBounds_toArray, List.set_cons_zero, List.set_cons_succ]
        refine wpAnyH_takeD (i := 7) (v := ?_) rfl (by kernel_rfl) (by kernel_rfl) (by kernel_rfl) (fun _ _ _ h => h) (Or.inl ⟨by kernel_rfl, ?_⟩) hS ?_
        rotate_left 1
        · (intro w' hSw; (try dsimp only at hSw); go_simp; try (with_reducible rfl))
        try simp only [Act.put, List.setIfInBounds_toArray, List.set_cons_zero, List.set_cons_succ]
        refine wpAnyH_takeD (i := 8) (v := ?_) rfl (by kernel_rfl) (by kernel_rfl) (by kernel_rfl) (fun _ _ _ h => h) (Or.inl ⟨by kernel_rfl, ?_⟩) hS ?_
        rotate_left 1
        · (intro w' hSw; (try dsimp only at hSw); go_simp; try (with_reducible rfl))
        try simp only [Act.put, List.setIfInBounds_toArray, List.set_cons_zero, List.set_cons_succ]
        refine wpAnyH_takeD (i := 9) (v := ?_) rfl (by kernel_rfl) (by kernel_rfl) (by kernel_rfl) (fun _ _ _ h => h) (Or.inl ⟨by kernel_rfl, ?_⟩) hS ?_
        rotate_left 1
        · (intro w' hSw; (try dsimp only at hSw); go_simp; try (with_reducible rfl))
        try simp only [Act.put, List.setIfInBounds_toArray, List.set_cons_zero, List.set_cons_succ]
        refine wpAnyH_oneD (i := 10) rfl (by kernel_rfl) (fun K hK => ?_)
        refine step_extend rfl (.const (.slice none 0 0)) (.tmp 59) 22 rfl w0.heap.size 3 1 8 sliceInt (.slice none 0 0) 0 [] (World.ownsRow_nil _ _ _ _) (by rfl) wr.heap.size Al2 (nW - 1 - k) (cw - k) (icells ((W.drop k).take (nW - 1 - k))) (by rfl) (HSL2.out.below (Below.drew (Below.refl _ _)) (Nat.le_refl _)) (fun u hu => by obtain ⟨_, _, rfl⟩ := List.mem_map.1 hu; rfl) (by omega) (by omega) (by show w0.heap.size ≤ wr.heap.size; omega) ?_
        intro v6 w6 hO6 ht6 _ _
        rw [Nat.zero_add] at hO6
        obtain ⟨A6, c6, hv6, hs6⟩ := own_sl hO6
        subst hv6
        have hb6 : Below wr.heap.size wr w6 := (Tch.undrew ht6).below (Nat.le_refl _) (fun k hk e => by simp [Value.ownBlock] at e)
        have hR6 := (hb6.block _ hrlt).trans HRR.out
        obtain ⟨⟨p0, p1⟩, ⟨p2, p3⟩, p4⟩ := blk2 hR6
        refine hK.out _ _ ⟨trivial, trivial⟩ (fun hS => ?_)
        clear hK
        try simp only [Act.put, List.setIfInBounds_toArray, List.set_cons_zero, List.set_cons_succ]
        refine wpAnyH_takeD (i := 11) (v := ?_) rfl (by kernel_rfl) (by kernel_rfl) (by kernel_rfl) (fun _ _ _ h => h) (Or.inl ⟨by kernel_rfl, ?_⟩) hS ?_
        rotate_left 1
        · (intro w' hSw; (try dsimp only at hSw); go_simp; try (with_reducible rfl))
        try simp only [Act.put, List.setIfInBounds_toArray, List.set_cons_zero, List.set_cons_succ]
        refine wpAnyH_oneD (i := 12) rfl (by kernel_rfl) (fun K hK => ?_)
        go_simp
        refine hK.out _ _ ⟨trivial, trivial⟩ (fun hS => ?_)
        clear hK
        try simp only [Act.put, List.setIfInBounds_toArray, List.set_cons_zero, List.set_cons_succ]
        refine wpAnyH_takeD (i := 13) (v := ?_) rfl (by kernel_rfl) (by kernel_rfl) (by kernel_rfl) (fun _ _ _ h => h) (Or.inl ⟨by kernel_rfl, ?_⟩) hS ?_
        rotate_left 1
        · (intro w' hSw; (try dsimp only at hSw); go_simp; try (with_reducible rfl))
        try simp only [Act.put, List.setIfInBounds_toArray, List.set_cons_zero, List.set_cons_succ]
        refine wpAnyH_done (by kernel_rfl) ?_ _
        have HF := Lib.hid (blk2 (heap_set2 (x := .slice Al1 k k) (y := .slice A6 (nW - 1 - k) c6) hR6)).1
        have hw6 := hb6.size
        go_wp2_with fail
        refine bodyPost_ret (v := .tuple #[.agg #[.slice Al1 k k, .slice A6 (nW - 1 - k) c6], .bool true]) ?_ rfl ?_
        · obtain ⟨f0, f1⟩ := HF.out
          simp [results, Try.results41, go_sem, f0, f1]
        · have ht := tch_set2 (w := w6) (g := w.heap.size + 1) (x := .slice Al1 k k) (y := .slice A6 (nW - 1 - k) c6)
          have hwy := own_below HL.out.way hb6
          have hwy2 := own_tch hwy ht (fun g hg e => own_ne_blk hwy hR6 (by decide) (by rw [hg, e]))
          have ho2 := own_tch hO6 ht (fun g hg e => own_ne_blk hO6 hR6 (by decide) (by rw [hg, e]))
          obtain ⟨A7, c7, e7, s7⟩ := own_sl hwy2
          obtain ⟨A8, c8, e8, s8⟩ := own_sl ho2
          cases e8
          rw [← HNW.out.1] at s7
          have e7' : A7 = some ⟨wb, wo, none⟩ ∧ c7 = cw := by cases e7; exact ⟨rfl, rfl⟩
          rw [e7'.1, e7'.2] at s7
          refine ⟨below_set2 (by omega) (HBW.out.trans (hb6.mono (by omega))), .inr ⟨HIB.out, W.take k, (W.drop k).take (nW - 1 - k), Al1, A6, k, k, nW - 1 - k, c6, rfl, ?_, ?_, HIS.out, by omega, by omega⟩⟩
          · have := s7.to (k := k) (by omega) (by simp)
            rw [← HA1.out, icells, ← List.map_take] at this
            exact this
          · simpa using s8
      · have HHF : Hid (Maps.has D (.int .i64 (e : Int)) = false) := Lib.hid (by rw [HHK.out]; simpa using hem)
        have HEM := Lib.hid hem
        have HPU := Lib.hid (bput_any Sb qb ne1 WB e wr HL.out.bs hne')
        clear hem hR
        go_wp2_with (at_lookup; refine wpList_lookup_own_ok_int _ rfl (.tmp 44) (.tmp 45) 79 rfl 3 3 .i64 lawI Try.underlying79 Try.underlying3 (zeroI _) Bm ends.length D rfl hmp _ _ rfl hkey ?_; intro c hat hwc; rw [HHF.out]; clear hat hwc)
        refine HPU.out.mono ?_
        rintro en w6 ⟨rfl, hbs6, ht6⟩
        have hL6 := HL.out.put hbs6 ht6
        have hmp6 := hL6.mp
        have HL6 := Lib.hid hL6
        have hval : plainElem (H := Unit) Try.prog 3 (.int .i64 ((nW : Int) - 1)) = some (.lit (.int .i64 ((nW : Int) - 1)), []) := plainElem_int Try.underlying3 (wfI (by omega) (by omega))
        have hsz6 := ht6.size
        have hel2 : ends.length < maxLen := by unfold maxLen; omega
        clear hbs6 hL6 hmp HPU hcw ht6
        go_wp2_with (at_mapUpdate; refine wpList_mapUpdate_own _ rfl (.tmp 65) (.tmp 66) (.tmp 69) 79 rfl 3 3 lawI Try.underlying79 _ Bm ends.length D rfl hmp6 hel2 _ _ _ rfl rfl hkey _ [] hval ?_; intro w7 hmp7 hgrow7; have hL7 := HL6.out.note hmp7 hgrow7; have hbh7 := blk3 hL7.bh; obtain ⟨⟨c0, c1, c2⟩, c3, c4⟩ := hbh7)
        rw [← HNW.out.1] at hL7
        have hv7 : w7.ownsRow w0.heap.size 3 1 (.slice (some ⟨wb, wo, none⟩) nW cw) nW (icells (a ++ [(e : Int)])) := by
          have := hL7.way
          rw [← HNW.out.2.1, HNW.out.1]
          rw [HNW.out.1] at this
          exact this
        have hsz7 := hL7.bel.size
        have HRO := Lib.hid (fround_any ae1 ai1 al1 ci1 ne1 ce1 cl1 G.edges z sets a (e : Int) (some ⟨wb, wo, none⟩) nW cw As ns cs Az cz w0.heap.size w7 hv7 hsz7 (fun w' ht => hL7.reads hci HCI.out hcl HCL.out HWN.out.symm hs' hB0 ht) HG.out.1 HZN.out HG.out.2.1
          (HZW.out.1 _ (by rw [HNW.out.2.1]; simp)) (by rw [← HNW.out.2.1]; exact HZW.out.2) (by omega) KE hr hK2 (by omega) (by omega))
        have HL7 := Lib.hid hL7
        clear hv7 hL7 hmp7 hgrow7 c0 c1 c2 c3 c4 hmp6 hval
        refine HRO.out.mono ?_
        rintro en w8 ⟨v8, W8, rfl, hRd, ho8, _, ht8⟩
        have hL8 := HL7.out.go ho8 ht8
        have hd : ((nW : Int) - 1) = (a.length : Int) := by have := HNW.out.2.2; omega
        rw [hd, show ends.length + 1 = (ends ++ [e]).length by simp] at hL8
        have HL8 := Lib.hid hL8
        have hRd' := hRd
        rw [HSN.out] at hRd'
        have HM8 := Lib.hid (MapOk.next (by rw [← HNW.out.2.1]; exact HMO.out) HEM.out hne' hRd')
        obtain ⟨m8, hm8, hm8n, hm8z, _, _⟩ := hRd.ex
        have HZ8 : Hid (ZW G.edges z W8) := Lib.hid ⟨fun y hy => by
          rw [hm8, List.mem_append] at hy
          rcases hy with hy | hy
          · exact HZW.out.1 y (by rw [HNW.out.2.1]; exact hy)
          · exact hm8z y hy, hRd.chn⟩
        have H08 : Hid (W8[0]? = some x) := Lib.hid (by
          rw [hm8, List.getElem?_append_left (by simp), ← HNW.out.2.1]; exact HW0x.out)
        have HN8 : Hid (W8 ≠ []) := Lib.hid (by rw [hm8]; simp)
        have HL88 : Hid (W8.length ≤ 1 + (ends ++ [e]).length * (1 + ns * ne1)) := Lib.hid (by
          obtain ⟨_, _, _, _, hl8⟩ := hRd.last
          rw [← HLE.out, ← HNW.out.2.1] at hl8
          have := HWL.out
          rw [List.length_append, List.length_singleton, Nat.add_mul, Nat.one_mul]
          omega)
        have hgk1 : gk - 1 < gk := by
          have h1 := HM8.out.le
          rw [List.length_append, List.length_singleton] at h1
          omega
        have hgk2 : gk - 1 + (ends ++ [e]).length = ne1 := by rw [List.length_append, List.length_singleton]; omega
        have HGK := Lib.hid (And.intro hgk1 hgk2)
        clear hd hL8 hRd hRd' ho8 ht8 hm8 hm8n hm8z HRO hgk1 hgk2 hgk
        go_wp2
        go_roundg (gk - 1)
        case measure => exact HGK.out.1
        case rel => exact ⟨W8, ends ++ [e], _, _, HGK.out.2, HL8.out, HM8, HZ8, H08, HL88, HN8⟩
end
end Go.Proofs.Ytfpncpjdmgfkbaa
