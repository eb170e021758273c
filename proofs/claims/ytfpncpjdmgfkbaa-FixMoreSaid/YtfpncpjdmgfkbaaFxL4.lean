/- The law FixMore. -/
import Derived.Test.YtfpncpjdmgfkbaaFx20
namespace Go.Proofs.Ytfpncpjdmgfkbaa
open Go.RowKit

/-- Headers of rows of bools. -/
def Hdrs (w : World) (B : Nat) (vs : List Value) (L : List (List Bool)) : Prop := vs.length = L.length ∧ ∀ (j : Nat) ys, (L.map bcells)[j]? = some ys → ∃ A' n' c', vs[j]? = some (.slice A' n' c') ∧ Sl w B 1 A' n' c' ys
theorem Hdrs.of {w : World} {B n c : Nat} {A : Option Addr} {L : List (List Bool)} (h : Sl2 w B 1 A n c (L.map bcells)) : ∃ vs, Sl w B 1 A n c vs ∧ Hdrs w B vs L := by
  obtain ⟨vs, h1, h2, h3⟩ := h
  exact ⟨vs, h1, by simpa using h2, h3⟩
theorem Hdrs.sl2 {w : World} {B n c : Nat} {A : Option Addr} {vs : List Value} {L : List (List Bool)} (h : Hdrs w B vs L) (hs : Sl w B 1 A n c vs) : Sl2 w B 1 A n c (L.map bcells) := ⟨vs, hs, by simpa using h.1, h.2⟩
theorem Hdrs.below {w w' : World} {B B' : Nat} {vs : List Value} {L : List (List Bool)} (h : Hdrs w B vs L) (hb : Below B' w w') (hB : B ≤ B') : Hdrs w' B vs L :=
  ⟨h.1, fun j ys hj => by obtain ⟨A', n', c', a, b⟩ := h.2 j ys hj; exact ⟨A', n', c', a, b.below hb hB⟩⟩
theorem Hdrs.up {w : World} {B B' : Nat} {vs : List Value} {L : List (List Bool)} (h : Hdrs w B vs L) (hB : B ≤ B') : Hdrs w B' vs L :=
  ⟨h.1, fun j ys hj => by obtain ⟨A', n', c', a, b⟩ := h.2 j ys hj; exact ⟨A', n', c', a, b.up hB⟩⟩
theorem Hdrs.one {w : World} {B : Nat} {vs : List Value} {L : List (List Bool)} (h : Hdrs w B vs L) : ∀ u ∈ vs, u.oneCell' = true := by
  intro u hu
  obtain ⟨j, hj⟩ := List.getElem?_of_mem hu
  have hjl := (List.getElem?_eq_some_iff.1 hj).1
  obtain ⟨A', n', c', h1, _⟩ := h.2 j ((L.map bcells)[j]'(by rw [List.length_map, ← h.1]; exact hjl)) (List.getElem?_eq_getElem (by rw [List.length_map, ← h.1]; exact hjl))
  rw [hj] at h1; cases h1; rfl
theorem Hdrs.take {w : World} {B : Nat} {vs : List Value} {L : List (List Bool)} (h : Hdrs w B vs L) (k : Nat) : Hdrs w B (vs.take k) (L.take k) :=
  ⟨by simp [h.1], fun j ys hj => by
    rw [List.map_take, List.getElem?_take] at hj
    split at hj
    · rename_i hk
      obtain ⟨A', n', c', a, b⟩ := h.2 j ys hj
      exact ⟨A', n', c', by rw [List.getElem?_take, if_pos hk]; exact a, b⟩
    · cases hj⟩
theorem Hdrs.drop {w : World} {B : Nat} {vs : List Value} {L : List (List Bool)} (h : Hdrs w B vs L) (k : Nat) : Hdrs w B (vs.drop k) (L.drop k) :=
  ⟨by simp [h.1], fun j ys hj => by
    rw [List.map_drop, List.getElem?_drop] at hj
    obtain ⟨A', n', c', a, b⟩ := h.2 _ ys hj
    exact ⟨A', n', c', by rw [List.getElem?_drop]; exact a, b⟩⟩
theorem Hdrs.app {w : World} {B : Nat} {vs us : List Value} {L M : List (List Bool)} (h : Hdrs w B vs L) (k : Hdrs w B us M) : Hdrs w B (vs ++ us) (L ++ M) :=
  ⟨by simp [h.1, k.1], fun j ys hj => by
    have e := h.1
    rw [List.map_append] at hj
    by_cases hl : j < L.length
    · rw [List.getElem?_append_left (by simpa using hl)] at hj
      obtain ⟨A', n', c', a, b⟩ := h.2 j ys hj
      exact ⟨A', n', c', by rw [List.getElem?_append_left (by omega)]; exact a, b⟩
    · rw [List.getElem?_append_right (by simpa using hl), List.length_map] at hj
      obtain ⟨A', n', c', a, b⟩ := k.2 _ ys hj
      exact ⟨A', n', c', by rw [List.getElem?_append_right (by omega), e]; exact a, b⟩⟩
theorem Hdrs.single {w : World} {B n c : Nat} {A : Option Addr} {s : List Bool} (h : Sl w B 1 A n c (bcells s)) : Hdrs w B [.slice A n c] [s] :=
  ⟨rfl, fun j ys hj => by
    cases j with
    | zero => simp at hj; subst hj; exact ⟨A, n, c, rfl, h⟩
    | succ j => simp at hj⟩

theorem slice_toB {A : Option Addr} {n c k : Nat} (hk : k ≤ c) (w : World) : (Instr.sliceAt 47 (.slice A n c) none (some (.int .i64 (k : Int))) none).run Try.prog w = .ok (.slice A k c) w := by
  rw [run_sliceAt_slice _ _ _ _ _ _ (by kernel_rfl), run_slice_h _ _ _ _ _ (by kernel_rfl) _ _ (by omega) (by omega)]
  have : (sizeOf (Try.prog.elem 47)).run Try.prog w = .ok 1 w := by kernel_rfl
  rw [this]
  have he : (if c = 0 then A else A.map (·.add (0 * 1))) = A := by
    split
    · rfl
    · cases A with
      | none => rfl
      | some a => simp [Addr.add]
  simp only [Result.andThen, sliced, Int.toNat_natCast, Nat.sub_zero, he]
theorem slice_fromB {A : Option Addr} {n c k : Nat} {i : Int} (hi : i = k) (hk : k ≤ n) (w : World) : (Instr.sliceAt 47 (.slice A n c) (some (.int .i64 i)) none none).run Try.prog w = .ok (.slice (if c = k then A else A.map (·.add (k * 1))) (n - k) (c - k)) w := by
  subst hi
  rw [run_sliceAt_slice _ _ _ _ _ _ (by kernel_rfl), run_slice_l _ _ _ _ _ (by kernel_rfl) _ _ (by omega) (by omega)]
  have : (sizeOf (Try.prog.elem 47)).run Try.prog w = .ok 1 w := by kernel_rfl
  rw [this]
  simp [Result.andThen, sliced]
theorem sliceBool : SliceT Try.prog 35 4 1 1 :=
  SliceT.mk (z := .bool false) Try.underlying35 (by kernel_rfl) (by decide) (by decide)
theorem own_slE {w : World} {base e n c : Nat} {A : Option Addr} {xs : List Value} (h : w.ownsRow base e 1 (.slice A n c) n xs) : Sl w w.heap.size 1 A n c xs := by
  obtain ⟨A', c', he, hs⟩ := own_sl h
  cases he; exact hs
/-- With a set less, or with a node more in one, no node is lost. -/
theorem asks_sub {sets bs : List (List Bool)} (h : ∀ s ∈ bs, ∃ t ∈ sets, ∀ i : Nat, hasB t i = true → hasB s i = true) : ∀ p ∈ asksOf bs, ∃ q ∈ asksOf sets, ∀ i, q i = true → p i = true := by
  intro p hp
  unfold asksOf at hp
  split at hp
  · rw [List.mem_singleton] at hp
    subst hp
    obtain ⟨q, hq⟩ := List.exists_mem_of_ne_nil _ (asksOf_ne sets)
    exact ⟨q, hq, fun _ _ => rfl⟩
  · obtain ⟨s, hs, rfl⟩ := List.mem_map.1 hp
    obtain ⟨t, ht, hi⟩ := h s hs
    refine ⟨askOf t, ?_, hi⟩
    unfold asksOf
    rw [if_neg (by rintro rfl; cases ht)]
    exact List.mem_map.2 ⟨t, ht, rfl⟩

section
variable (ai ae al : Option Addr) (ni ci ne ce nl cl : Nat)
set_option maxHeartbeats 8000000 in
set_option maxRecDepth 100000 in
theorem FixMore_any (As : Option Addr) (ns cs : Nat) (G : Gph) (sets : List (List Bool)) (x y : Nat) (w : World) (B : Nat) (h : GrRd w B ai ni ci ae ne ce al nl cl G) (hs : Sl2 w B 1 As ns cs (sets.map bcells)) (hB : B ≤ w.heap.size) (hx : x ≤ 255) (hy : y ≤ 255) :
    Calls Try.prog 14 #[.agg #[.slice ai ni ci, .slice ae ne ce, .slice al nl cl], .slice As ns cs, .int .u8 (x : Int), .int .u8 (y : Int)] w (Tru w true) := by
  obtain ⟨wb, hwb, hbb, hzb, hx0, hx1, hx2⟩ := boxed3 w (.slice ai ni ci) (.slice ae ne ce) (.slice al nl cl) 26
  have HWB := Lib.hid hwb
  have h' := h.below hbb hB
  have hs' := hs.below hbb hB
  have HHV := Lib.hid (heavyF_any ai ae al ni ci ne ce nl cl G sets As ns cs wb B h' hs' (by omega))
  obtain ⟨L1, L2, L3⟩ := h.lens
  have L4 : ns = sets.length := by have := hs.len; simpa using this
  have hgb : w.heap.size < wb.heap.size := by omega
  have hBb : B ≤ wb.heap.size := by omega
  clear hwb hzb h hs
  cases hv : heavyF G sets
  rotate_left 1
  · have HV := Lib.hid hv
    clear hv L1 L2 L3 L4
    go_enter Try.func14, Try.ntmps14
    go_wp2_with fail
    rw [← HWB.out]
    refine HHV.out.mono ?_
    rw [HV.out]
    rintro e w1 ⟨rfl, hb1⟩
    have hz1 := hb1.size
    go_wp2_with fail
    refine (awakeF_any _).mono ?_
    rintro e w2 ⟨rfl, hb2⟩
    have HB2 := Lib.hid (hbb.trans ((hb1.trans (hb2.mono hb1.size)).mono (by omega)))
    go_wp2
    go_ret
    exact ⟨rfl, HB2.out⟩
  obtain ⟨q1, q2, q3, q4, q5⟩ := heavyF_bd hv
  obtain ⟨z, hz⟩ := gfp_exists G.edges (asksOf sets)
  have hzn : ne = z.length := by rw [hz.1, L2]
  have b1 : ne ≤ 60 := by omega
  have b2 : ni ≤ 60 := by omega
  have b3 : ns ≤ 8 := by omega
  have HV := Lib.hid hv
  have HZ := Lib.hid hz
  have HZN := Lib.hid hzn
  have HR := Lib.hid q4
  have HLS := Lib.hid q5
  have HSN := Lib.hid L4
  clear hv hz hzn q1 q2 q3 q4 q5 L1 L2 L3 L4
  by_cases p1 : ns = 0
  · have d1 : ((ns : Int) == 0) = true := by simp [p1]
    clear p1
    go_enter Try.func14, Try.ntmps14
    go_wp2_with fail
    rw [← HWB.out]
    refine HHV.out.mono ?_
    rw [HV.out]
    rintro e w1 ⟨rfl, hb1⟩
    have hz1 := hb1.size
    go_wp2_with fail
    refine (awakeF_any _).mono ?_
    rintro e w2 ⟨rfl, hb2⟩
    have HB2 := Lib.hid (hbb.trans ((hb1.trans (hb2.mono hb1.size)).mono (by omega)))
    go_wp2
    go_ret
    exact ⟨rfl, HB2.out⟩
  have d1 : ((ns : Int) == 0) = false := by simpa using p1
  have hG1 := fun (W : World) (hb : Below wb.heap.size wb W) => (h'.below hb hBb).up (show B ≤ W.heap.size by have := hb.size; omega)
  have hE1 := fun (W : World) (hb : Below wb.heap.size wb W) => (hs'.below hb hBb).up (show B ≤ W.heap.size by have := hb.size; omega)
  have hnp : 0 < ns := by omega
  clear p1
  go_enter Try.func14, Try.ntmps14
  go_wp2_with fail
  rw [← HWB.out]
  refine HHV.out.mono ?_
  rw [HV.out]
  rintro e w1 ⟨rfl, hb1⟩
  have hz1 := hb1.size
  have hgl1 : w.heap.size < w1.heap.size := by omega
  have a0 := (hb1.cell (p := ⟨w.heap.size, 0, none⟩) hgb).trans hx0
  have a1 := (hb1.cell (p := ⟨w.heap.size, 1, none⟩) hgb).trans hx1
  have a2 := (hb1.cell (p := ⟨w.heap.size, 2, none⟩) hgb).trans hx2
  go_wp2_with fail
  refine (ffair_any ai ae al ni ci ne ce nl cl G sets As ns cs z w1 w1.heap.size (hG1 w1 hb1) (hE1 w1 hb1) HZ.out (Nat.le_refl _) (by omega) 30 HR.out (by omega) (by omega)).mono ?_
  rintro e w2 ⟨vz, rfl, hOz, hb2, _⟩
  obtain ⟨Az, cz, rfl, hsz⟩ := own_sl hOz
  have hz2 := hb2.size
  have hbw2 : Below wb.heap.size wb w2 := hb1.trans (hb2.mono hz1)
  clear a0 a1 a2
  have hnp1 : ((ns : Int) == 0) = false := d1
  have hnp2 : (0 : Int) < (ns : Int) := by omega
  go_wp2_with fail
  obtain ⟨k, hk, hkl⟩ : ∃ k : Nat, ((x : Int) % (ns : Int)) = (k : Int) ∧ k < ns := ⟨x % ns, by simp, Nat.mod_lt _ hnp⟩
  rw [hk]
  obtain ⟨vs, hsv, hhd⟩ := Hdrs.of (hE1 w2 hbw2)
  have hcap := hsv.cap
  obtain ⟨Ad, hAd⟩ : ∃ A, A = (if cs = k + 1 then As else As.map (·.add ((k + 1) * 1))) := ⟨_, rfl⟩
  have hsk : Sl w2 w2.heap.size 1 As k cs (vs.take k) := by have := hsv.take (k := k) (by omega); rwa [Nat.mul_one] at this
  have hsd : Sl w2 w2.heap.size 1 Ad (ns - (k + 1)) (cs - (k + 1)) (vs.drop (k + 1)) := by
    have := hsv.drop (k := k + 1) (by omega)
    rw [← hAd, Nat.mul_one] at this; exact this
  have g1 : ∀ w', (Instr.sliceAt 47 (.slice As ns cs) none (some (.int .i64 (k : Int))) none).run Try.prog w' = .ok (.slice As k cs) w' := fun w' => slice_toB (by omega) w'
  have g2 : ∀ w', (Instr.sliceAt 47 (.slice As ns cs) (some (.int .i64 ((k : Int) + 1))) none none).run Try.prog w' = .ok (.slice Ad (ns - (k + 1)) (cs - (k + 1))) w' := fun w' => by
    rw [slice_fromB (k := k + 1) (by omega) (by omega), ← hAd]
  have HSK := Lib.hid hsk
  have HSD := Lib.hid hsd
  have HHD := Lib.hid hhd
  have i5 : IntKind.i64.wrap ((k : Int) + 1) = (k : Int) + 1 := IntWalk.i64_in _ (by omega)
  have j0 : (0 : Int) ≤ (k : Int) := by omega
  clear hk hAd hsk hsd
  refine wp_region_held_drew (S := fun w' => True ∧ True) (by kernel_rfl) ⟨trivial, trivial⟩ (fun hS => ?_)
  refine wpAnyH_takeD (i := 1) (v := ?_) rfl (by kernel_rfl) (by kernel_rfl) (by kernel_rfl) (fun _ _ _ h => h) (Or.inl ⟨by kernel_rfl, ?_⟩) hS ?_
  rotate_left 1
  · (intro w' hSw; (try dsimp only at hSw); go_simp; try (with_reducible rfl))
  try simp only [Act.put, List.setIfInBounds_toArray, List.set_cons_zero, List.set_cons_succ]
  refine wpAnyH_takeD (i := 2) (v := ?_) rfl (by kernel_rfl) (by kernel_rfl) (by kernel_rfl) (fun _ _ _ h => h) (Or.inl ⟨by kernel_rfl, ?_⟩) hS ?_
  rotate_left 1
  · (intro w' hSw; (try dsimp only at hSw); go_simp; try (with_reducible rfl))
  try simp only [Act.put, List.setIfInBounds_toArray, List.set_cons_zero, List.set_cons_succ]
  refine wpAnyH_takeD (i := 3) (v := ?_) rfl (by kernel_rfl) (by kernel_rfl) (by kernel_rfl) (fun _ _ _ h => h) (Or.inl ⟨by kernel_rfl, ?_⟩) hS ?_
  rotate_left 1
  · (intro w' hSw; (try dsimp only at hSw); go_simp; try (with_reducible rfl))
  try simp only [Act.put, List.setIfInBounds_toArray, List.set_cons_zero, List.set_cons_succ]
  refine wpAnyH_takeD (i := 5) (v := ?_) rfl (by kernel_rfl) (by kernel_rfl) (by kernel_rfl) (fun _ _ _ h => h) (Or.inl ⟨by kernel_rfl, ?_⟩) hS ?_
  rotate_left 1
  · (intro w' hSw; (try dsimp only at hSw); go_simp; try (with_reducible rfl))
  try simp only [Act.put, List.setIfInBounds_toArray, List.set_cons_zero, List.set_cons_succ]
  refine wpAnyH_takeD (i := 6) (v := ?_) rfl (by kernel_rfl) (by kernel_rfl) (by kernel_rfl) (fun _ _ _ h => h) (Or.inl ⟨by kernel_rfl, ?_⟩) hS ?_
  rotate_left 1
  · (intro w' hSw; (try dsimp only at hSw); go_simp; try (with_reducible rfl))
  try simp only [Act.put, List.setIfInBounds_toArray, List.set_cons_zero, List.set_cons_succ]
  refine wpAnyH_takeD (i := 7) (v := ?_) rfl (by kernel_rfl) (by kernel_rfl) (by kernel_rfl) (fun _ _ _ h => h) (Or.inl ⟨by kernel_rfl, ?_⟩) hS ?_
  rotate_left 1
  · (intro w' hSw; (try dsimp only at hSw); go_simp; try (with_reducible rfl))
  try simp only [Act.put, List.setIfInBounds_toArray, List.set_cons_zero, List.set_cons_succ]
  refine wpAnyH_takeD (i := 8) (v := ?_) rfl (by kernel_rfl) (by kernel_rfl) (by kernel_rfl) (fun _ _ _ h => h) (Or.inl ⟨by kernel_rfl, ?_⟩) hS ?_
  rotate_left 1
  · (intro w' hSw; (try dsimp only at hSw); go_simp; try (with_reducible rfl))
  try simp only [Act.put, List.setIfInBounds_toArray, List.set_cons_zero, List.set_cons_succ]
  refine wpAnyH_oneD (i := 0) rfl (by kernel_rfl) (fun K hK => ?_)
  refine step_empty rfl 47 rfl 35 1 24 sliceRowsB ?_
  intro we ve hve hOe hbe hse
  have hbe0 : Below w2.heap.size w2 we := (Below.drew (Below.refl _ _)).trans hbe
  have hOe' : we.ownsRow w2.heap.size 35 1 ve 0 [] := hOe
  have hve2 : ve = .slice (some ⟨w2.heap.size, 0, none⟩) 0 0 := hve
  clear hve
  subst hve2
  refine hK.out _ _ ⟨trivial, trivial⟩ (fun hS => ?_)
  clear hK
  try simp only [Act.put, List.setIfInBounds_toArray, List.set_cons_zero, List.set_cons_succ]
  refine wpAnyH_oneD (i := 4) rfl (by kernel_rfl) (fun K hK => ?_)
  refine step_extend rfl (.tmp 33) (.tmp 36) 47 rfl w2.heap.size 35 1 24 sliceRowsB _ 0 [] hOe' (by rfl) w2.heap.size As k cs (vs.take k) (by rfl) (HSK.out.below hbe0 (Nat.le_refl _)) (HHD.out.take k).one (by omega) (by omega) hbe0.size ?_
  intro v1 wa hOa hta _ _
  have hba : Below w2.heap.size w2 wa := hbe0.trans (hta.below hbe0.size (fun k hk e => by have := (hOe'.lt k e).1; omega))
  refine hK.out _ _ ⟨trivial, trivial⟩ (fun hS => ?_)
  clear hK
  try simp only [Act.put, List.setIfInBounds_toArray, List.set_cons_zero, List.set_cons_succ]
  refine wpAnyH_oneD (i := 9) rfl (by kernel_rfl) (fun K hK => ?_)
  refine step_extend rfl (.tmp 37) (.tmp 41) 47 rfl w2.heap.size 35 1 24 sliceRowsB v1 (0 + k) ([] ++ vs.take k) hOa (by rfl) w2.heap.size Ad (ns - (k + 1)) (cs - (k + 1)) (vs.drop (k + 1)) (by rfl) (HSD.out.below hba (Nat.le_refl _)) (HHD.out.drop (k + 1)).one (by omega) (by omega) hba.size ?_
  intro v2 w3 hO3 ht3 _ _
  have hb3 : Below w2.heap.size w2 w3 := hba.trans (ht3.below hba.size (fun k hk e => by have := (hOa.lt k e).1; omega))
  refine hK.out _ _ ⟨trivial, trivial⟩ (fun hS => ?_)
  clear hK
  try simp only [Act.put, List.setIfInBounds_toArray, List.set_cons_zero, List.set_cons_succ]
  refine wpAnyH_takeD (i := 10) (v := ?_) rfl (by kernel_rfl) (by kernel_rfl) (by kernel_rfl) (fun _ _ _ h => h) (Or.inl ⟨by kernel_rfl, ?_⟩) hS ?_
  rotate_left 1
  · (intro w' hSw; (try dsimp only at hSw); go_simp; try (with_reducible rfl))
  try simp only [Act.put, List.setIfInBounds_toArray, List.set_cons_zero, List.set_cons_succ]
  refine wpAnyH_done (by kernel_rfl) ?_ _
  rw [Nat.zero_add, List.nil_append, show k + (ns - (k + 1)) = ns - 1 by omega] at hO3
  obtain ⟨Al, cl1, rfl, _⟩ := own_sl hO3
  have hkS : k < sets.length := by rw [← HSN.out]; exact hkl
  obtain ⟨sb, so, A', n', c', hAe, hsbb, hsc, hrow⟩ := (hhd.sl2 hsv).at_ (j := k) (ys := bcells sets[k]) (by simp [hkS])
  subst hAe
  have hn' : n' = sets[k].length := by have := hrow.len; simpa [bcells] using this.symm
  have hnb : n' ≤ 120 := by rw [hn']; exact HLS.out _ (List.getElem_mem hkS)
  have hz3 := hb3.size
  have hsc3 := (hb3.cell (p := ⟨sb, so + k, none⟩) hsbb).trans hsc
  have hrow3 := (hrow.below hb3 (Nat.le_refl _)).below ((Below.refl w3.heap.size w3).alloc (Nat.le_refl _) (.cells #[] 4)) (by omega)
  have hb0 : (w3.alloc (.cells #[] 4)).ownsRow w2.heap.size 4 1 (.slice (some ⟨w3.heap.size, 0, none⟩) 0 0) 0 [] := own_base (World.ownsRow_made w3 #[] 0 (Nat.le_refl _) (by unfold maxLen; omega) (by simp)) hz3
  have hbl : ∀ u ∈ bcells sets[k], u.oneCell' = true := fun u hu => by obtain ⟨_, _, rfl⟩ := List.mem_map.1 hu; rfl
  have i1 : (k : Int) < (ns : Int) := by omega
  have hsb3 : sb < w3.heap.size := by omega
  have hbb2 : w2.heap.size ≤ (w3.alloc (.cells #[] 4)).heap.size := by simp; omega
  have HSm := Lib.hid (List.getElem_mem hkS)
  generalize hse : sets[k] = s at *
  clear hse
  have HN' := Lib.hid hn'
  clear hn' g1 g2 i5 hOe hOe' hbe hse hta ht3 hOa hba
  by_cases hn0 : n' = 0
  · have hd1 : decide ((0 : Int) < (n' : Int)) = false := by simp [hn0]
    have hd2 : ¬ 0 < n' := by omega
    have HGS : Hid (∀ i : Nat, hasB s i = true → hasB s i = true) := Lib.hid (fun _ h => h)
    clear hn0
    go_wp2_with (at_builtin; refine wpList_extend rfl (.tmp 43) (.tmp 47) 35 rfl w2.heap.size 4 1 1 sliceBool _ _ _ hb0 rfl w2.heap.size A' n' c' (bcells s) rfl hrow3 hbl (by omega) (by omega) hbb2 ?_; intro v4 w4 hO4 ht4 _ _; rw [Nat.zero_add, List.nil_append] at hO4; obtain ⟨Ag, cg, rfl, _⟩ := own_sl hO4)
    have hb34 : Below w3.heap.size w3 w4 := ((Below.refl w3.heap.size w3).alloc (Nat.le_refl _) (.cells #[] 4)).trans (ht4.below (by simp) (fun g hg e => by simp [Value.ownBlock] at e; omega))
    have hOl3 := own_below hO3 hb34
    have hb24 : Below w2.heap.size w2 w4 := hb3.trans (hb34.mono hz3)
    clear hrow3 hb0 ht4 hsc3 hbb2
    obtain ⟨w0, rfl⟩ : ∃ w0 : World, w0 = w4 := ⟨_, rfl⟩
    obtain ⟨gs, hgs⟩ : ∃ gs, gs = s := ⟨_, rfl⟩
    have hOl := hOl3
    have hOg := hO4
    have hb20 := hb24
    have HGS : Hid (∀ i : Nat, hasB s i = true → hasB gs i = true) := Lib.hid (by rw [hgs]; exact HGS.out)
    rw [← hgs] at hOg
    clear hgs hOl3 hO4 hb24
    have hz20 := hb20.size
    have hbw0 : Below wb.heap.size wb w0 := hbw2.trans (hb20.mono (by omega))
    have a20 := (hbw2.cell (p := ⟨w.heap.size, 0, none⟩) hgb).trans hx0
    have a21 := (hbw2.cell (p := ⟨w.heap.size, 1, none⟩) hgb).trans hx1
    have a22 := (hbw2.cell (p := ⟨w.heap.size, 2, none⟩) hgb).trans hx2
    have HA2 := Lib.hid (And.intro a20 (And.intro a21 a22))
    have a0 := (hbw0.cell (p := ⟨w.heap.size, 0, none⟩) hgb).trans hx0
    have a1 := (hbw0.cell (p := ⟨w.heap.size, 1, none⟩) hgb).trans hx1
    have a2 := (hbw0.cell (p := ⟨w.heap.size, 2, none⟩) hgb).trans hx2
    have hgl : w.heap.size < w2.heap.size := by omega
    have hgl0 : w.heap.size < w0.heap.size := by omega
    obtain ⟨less, hless⟩ : ∃ l, l = sets.take k ++ sets.drop (k + 1) := ⟨_, rfl⟩
    obtain ⟨vl, hvl⟩ : ∃ l, l = vs.take k ++ vs.drop (k + 1) := ⟨_, rfl⟩
    have hHL : Hdrs w2 w2.heap.size vl less := by rw [hvl, hless]; exact (HHD.out.take k).app (HHD.out.drop (k + 1))
    rw [← hvl] at hOl
    obtain ⟨zx, hzx⟩ := gfp_exists G.edges (asksOf less)
    obtain ⟨zy, hzy⟩ := gfp_exists G.edges (asksOf (less ++ [gs]))
    have hlm : ∀ s' ∈ less, s' ∈ sets := fun s' hs' => by
      rw [hless] at hs'
      rcases List.mem_append.1 hs' with h' | h'
      · exact List.mem_of_mem_take h'
      · exact List.mem_of_mem_drop h'
    have hzx1 : SubB z zx := gfp_less HZ.out hzx (asks_sub (fun s' hs' => ⟨s', hlm s' hs', fun _ h => h⟩))
    have hzy1 : SubB z zy := gfp_less HZ.out hzy (asks_sub (fun s' hs' => by
      rcases List.mem_append.1 hs' with h' | h'
      · exact ⟨s', hlm s' h', fun _ h => h⟩
      · rw [List.mem_singleton] at h'
        rw [h']
        exact ⟨s, HSm.out, HGS.out⟩))
    have hyx1 : SubB zy zx := gfp_less hzy hzx (asks_sub (fun s' hs' => ⟨s', List.mem_append_left _ hs', fun _ h => h⟩))
    have HXN : Hid (ne = zx.length) := Lib.hid (by rw [hzx.1, ← HZ.out.1]; exact HZN.out)
    have HYN : Hid (ne = zy.length) := Lib.hid (by rw [hzy.1, ← HZ.out.1]; exact HZN.out)
    have HZX1 := Lib.hid hzx1
    have HZY1 := Lib.hid hzy1
    have HYX1 := Lib.hid hyx1
    have HZX := Lib.hid hzx
    have HZY := Lib.hid hzy
    have HHL := Lib.hid hHL
    have HL0 := Lib.hid (((hHL.below hb20 (Nat.le_refl _)).up hz20).sl2 (own_slE hOl))
    have HG2 := Lib.hid (hG1 w2 hbw2)
    have HG := Lib.hid (hG1 w0 hbw0)
    have HOL := Lib.hid hOl
    have HOG := Lib.hid hOg
    have HOZ := Lib.hid hOz
    have hb00 : Below w0.heap.size w0 w0.drew := Below.drew (Below.refl _ _)
    clear hless hvl hHL hzx hzy hlm hzx1 hzy1 hyx1 hOl hOg a20 a21 a22 hx0 hx1 hx2 hG1 hE1 hOz h' hs' HHV
    go_wp2_with fail
    refine wp_region_held_drew (S := fun w' => w'.cell? ⟨w.heap.size, 0, none⟩ = some (.slice ai ni ci) ∧ w'.cell? ⟨w.heap.size, 1, none⟩ = some (.slice ae ne ce) ∧ w'.cell? ⟨w.heap.size, 2, none⟩ = some (.slice al nl cl)) (by kernel_rfl) ⟨a0, a1, a2⟩ (fun hS => ?_)
    refine wpAnyH_takeD (i := 0) (v := ?_) rfl (by kernel_rfl) (by kernel_rfl) (by kernel_rfl) (fun _ _ _ h => h) (Or.inl ⟨by kernel_rfl, ?_⟩) hS ?_
    rotate_left 1
    · (intro w' hSw; (try dsimp only at hSw); go_simp; try (with_reducible rfl))
    try simp only [Act.put, List.setIfInBounds_toArray, List.set_cons_zero, List.set_cons_succ]
    refine wpAnyH_takeD (i := 1) (v := ?_) rfl (by kernel_rfl) (by kernel_rfl) (by kernel_rfl) (fun _ _ _ h => h) (Or.inl ⟨by kernel_rfl, ?_⟩) hS ?_
    rotate_left 1
    · (intro w' hSw; (try dsimp only at hSw); go_simp; try (with_reducible rfl))
    try simp only [Act.put, List.setIfInBounds_toArray, List.set_cons_zero, List.set_cons_succ]
    refine wpAnyH_takeD (i := 3) (v := ?_) rfl (by kernel_rfl) (by kernel_rfl) (by kernel_rfl) (fun _ _ _ h => h) (Or.inl ⟨by kernel_rfl, ?_⟩) hS ?_
    rotate_left 1
    · (intro w' hSw; (try dsimp only at hSw); go_simp; try (with_reducible rfl))
    try simp only [Act.put, List.setIfInBounds_toArray, List.set_cons_zero, List.set_cons_succ]
    refine wpAnyH_takeD (i := 4) (v := ?_) rfl (by kernel_rfl) (by kernel_rfl) (by kernel_rfl) (fun _ _ _ h => h) (Or.inl ⟨by kernel_rfl, ?_⟩) hS ?_
    rotate_left 1
    · (intro w' hSw; (try dsimp only at hSw); go_simp; try (with_reducible rfl))
    try simp only [Act.put, List.setIfInBounds_toArray, List.set_cons_zero, List.set_cons_succ]
    refine wpAnyH_takeD (i := 5) (v := ?_) rfl (by kernel_rfl) (by kernel_rfl) (by kernel_rfl) (fun _ _ _ h => h) (Or.inl ⟨by kernel_rfl, ?_⟩) hS ?_
    rotate_left 1
    · (intro w' hSw; (try dsimp only at hSw); go_simp; try (with_reducible rfl))
    try simp only [Act.put, List.setIfInBounds_toArray, List.set_cons_zero, List.set_cons_succ]
    refine wpAnyH_ready (rs := [2, 6]) (by kernel_rfl) (by simp) ?_
    refine (allReadyH_consD (i := 2) rfl (fun K hK => ?_) (allReadyH_consD (i := 6) rfl (fun K hK => ?_) AllReadyH.nil))
    · skip
      go_simp
      refine (ffair_any ai ae al ni ci ne ce nl cl G less Al (ns - 1) cl1 zx (w0.drew) w0.heap.size (HG.out.below hb00 (Nat.le_refl _)) (HL0.out.below hb00 (Nat.le_refl _)) HZX.out hb00.size (by omega) 30 HR.out (by omega) (by omega)).mono ?_
      rintro e wa ⟨vx, rfl, hOx, hqa, _⟩
      obtain ⟨Ax, cx, rfl, _⟩ := own_sl hOx
      have hba : Below w0.heap.size w0 wa := hb00.trans hqa
      go_wp2_with fail
      have ka0 := (hba.cell (p := ⟨w.heap.size, 0, none⟩) hgl0).trans a0
      have ka1 := (hba.cell (p := ⟨w.heap.size, 1, none⟩) hgl0).trans a1
      have ka2 := (hba.cell (p := ⟨w.heap.size, 2, none⟩) hgl0).trans a2
      refine hK.out _ _ ⟨ka0, ka1, ka2⟩ (fun hS => ?_)
      clear hK
      try simp only [Act.put, List.setIfInBounds_toArray, List.set_cons_zero, List.set_cons_succ]
      refine wpAnyH_oneD (i := 6) rfl (by kernel_rfl) (fun K hK => ?_)
      go_simp
      obtain ⟨wm, hwm⟩ : ∃ W, W = wa.alloc (.cells #[.slice Ag n' cg] 35) := ⟨_, rfl⟩
      have hqm : Below wa.heap.size wa wm := by rw [hwm]; exact (Below.refl _ _).alloc (Nat.le_refl _) _
      have hnm : wm.heap[wa.heap.size]? = some (.cells #[.slice Ag n' cg] 35) := by rw [hwm]; exact heap_alloc_new _ _
      rw [← hwm]
      clear hwm
      have hbm : Below w0.heap.size w0 wm := hba.trans (hqm.mono hba.size)
      have hXm := own_below hOx hqm
      have km0 := (hbm.cell (p := ⟨w.heap.size, 0, none⟩) hgl0).trans a0
      have km1 := (hbm.cell (p := ⟨w.heap.size, 1, none⟩) hgl0).trans a1
      have km2 := (hbm.cell (p := ⟨w.heap.size, 2, none⟩) hgl0).trans a2
      refine hK.out _ _ ⟨km0, km1, km2⟩ (fun hS => ?_)
      clear hK
      try simp only [Act.put, List.setIfInBounds_toArray, List.set_cons_zero, List.set_cons_succ]
      refine wpAnyH_oneD (i := 7) rfl (by kernel_rfl) (fun K hK => ?_)
      have hlw := own_below HOL.out hbm
      have hszm := hbm.size
      refine step_push rfl (.tmp 63) (.tmp 65) 47 rfl w2.heap.size 35 1 24 sliceRowsB _ (ns - 1) vl hlw (by rfl) wa.heap.size #[.slice Ag n' cg] (by rfl) hnm rfl (by simp [Value.oneCell']) (by omega) (by omega) (by omega) ?_
      intro v9 w9 hO9 ht9 _ _
      obtain ⟨A9, c9, rfl, hs9⟩ := own_sl hO9
      have hb9 : Below w2.heap.size wm w9 := ht9.below (by omega) (fun k hk e => by have := (hlw.lt k e).1; omega)
      have hX9 := own_tch hXm ht9 (fun g hg e => own_ne hXm hlw (by decide) g hg e)
      have hGm := own_below HOG.out hbm
      have hG9 := own_tch hGm ht9 (fun g hg e => own_ne hGm hlw (by decide) g hg e)
      have hZm := own_below (own_below HOZ.out hb20) hbm
      have hZ9 := own_tch hZm ht9 (fun g hg e => own_ne hZm hlw (by decide) g hg e)
      have hb29 : Below w2.heap.size w2 w9 := hb20.trans ((hbm.mono hz20).trans hb9)
      have hsz9 := hb29.size
      have hE9 : Sl2 w9 w9.heap.size 1 A9 (ns - 1 + 1) c9 ((less ++ [gs]).map bcells) := (((HHL.out.below hb29 (Nat.le_refl _)).up hsz9).app (Hdrs.single (own_slE hG9))).sl2 hs9
      have hGr9 := (HG2.out.below hb29 (Nat.le_refl _)).up hsz9
      have HE9 := Lib.hid hE9
      have HGr9 := Lib.hid hGr9
      have HX9 := Lib.hid hX9
      have HZ9 := Lib.hid hZ9
      have q90 := (hb29.cell (p := ⟨w.heap.size, 0, none⟩) hgl).trans HA2.out.1
      have q91 := (hb29.cell (p := ⟨w.heap.size, 1, none⟩) hgl).trans HA2.out.2.1
      have q92 := (hb29.cell (p := ⟨w.heap.size, 2, none⟩) hgl).trans HA2.out.2.2
      have hgl9 : w.heap.size < w9.heap.size := by omega
      clear hE9 hGr9 hX9 hZ9 hG9 hGm hZm hs9 hO9 ht9
      refine hK.out _ _ ⟨q90, q91, q92⟩ (fun hS => ?_)
      clear hK
      try simp only [Act.put, List.setIfInBounds_toArray, List.set_cons_zero, List.set_cons_succ]
      refine wpAnyH_oneD (i := 8) rfl (by kernel_rfl) (fun K hK => ?_)
      go_simp
      refine (ffair_any ai ae al ni ci ne ce nl cl G (less ++ [gs]) A9 (ns - 1 + 1) c9 zy w9 w9.heap.size HGr9.out HE9.out HZY.out (Nat.le_refl _) (by omega) 30 HR.out (by omega) (by omega)).mono ?_
      rintro e w10 ⟨vy, rfl, hOy, hb10, _⟩
      obtain ⟨Ay, cy, rfl, _⟩ := own_sl hOy
      have qA0 := (hb10.cell (p := ⟨w.heap.size, 0, none⟩) hgl9).trans q90
      have qA1 := (hb10.cell (p := ⟨w.heap.size, 1, none⟩) hgl9).trans q91
      have qA2 := (hb10.cell (p := ⟨w.heap.size, 2, none⟩) hgl9).trans q92
      go_wp2_with fail
      refine hK.out _ _ ⟨qA0, qA1, qA2⟩ (fun hS => ?_)
      clear hK
      try simp only [Act.put, List.setIfInBounds_toArray, List.set_cons_zero, List.set_cons_succ]
      refine wpAnyH_takeD (i := 9) (v := ?_) rfl (by kernel_rfl) (by kernel_rfl) (by kernel_rfl) (fun _ _ _ h => h) (Or.inl ⟨by kernel_rfl, ?_⟩) hS ?_
      rotate_left 1
      · (intro w' hSw; (try dsimp only at hSw); go_simp; try (with_reducible rfl))
      try simp only [Act.put, List.setIfInBounds_toArray, List.set_cons_zero, List.set_cons_succ]
      refine wpAnyH_takeD (i := 10) (v := ?_) rfl (by kernel_rfl) (by kernel_rfl) (by kernel_rfl) (fun _ _ _ h => h) (Or.inl ⟨by kernel_rfl, ?_⟩) hS ?_
      rotate_left 1
      · (intro w' hSw; (try dsimp only at hSw); go_simp; try (with_reducible rfl))
      try simp only [Act.put, List.setIfInBounds_toArray, List.set_cons_zero, List.set_cons_succ]
      refine wpAnyH_done (by kernel_rfl) ?_ _
      have hsx := own_slE (own_below HX9.out hb10)
      have hsy := own_slE hOy
      have hsz := own_slE (own_below HZ9.out hb10)
      have HBF := Lib.hid (hbb.trans ((hbw2.trans ((hb29.trans (hb10.mono hsz9)).mono (by omega))).mono (by omega)))
      have hd0 : ((ne : Int) != (ne : Int)) = false := by simp
      clear q90 q91 q92 qA0 qA1 qA2
      go_wp2
      go_loopw [15] (fun i wr => ∃ t : Nat, t ≤ ne ∧ i = .int .i64 t ∧ wr = w10) (fun i _ => ne - (intOf i).toNat)
      case atStart => exact ⟨0, by omega, rfl, rfl⟩
      case round =>
        obtain ⟨t, ht, rfl, rfl⟩ := hrel
        by_cases hlt : t < ne
        · obtain ⟨bx, ox, hAx, _, hcx⟩ := hsx.rd.at_ (bcells'_at (show t < zx.length by rw [← HXN.out]; exact hlt))
          obtain ⟨by_, oy, hAy, _, hcy⟩ := hsy.rd.at_ (bcells'_at (show t < zy.length by rw [← HYN.out]; exact hlt))
          obtain ⟨bz, oz, hAz, _, hcz⟩ := hsz.rd.at_ (bcells'_at (show t < z.length by rw [← HZN.out]; exact hlt))
          subst hAx hAy hAz
          have e1 := HZX1.out t
          have e2 := HZY1.out t
          have e3 := HYX1.out t
          generalize zx.getD t false = bx' at *
          generalize zy.getD t false = by' at *
          generalize z.getD t false = bz' at *
          have t0 : (0 : Int) ≤ (t : Int) := by omega
          have t1 : (t : Int) < (ne : Int) := by omega
          cases bz' <;> cases bx' <;> cases by'
          all_goals first | exact absurd (e1 rfl) (by decide) | exact absurd (e2 rfl) (by decide) | exact absurd (e3 rfl) (by decide) | skip
          all_goals
            clear e1 e2 e3
            go_wp2
            go_roundw
            case rel => exact ⟨t + 1, by omega, by go_num, by trivial⟩
            case measure => simp [intOf]; omega
        · clear hsx hsy hsz
          go_wp2_with fail
          refine (awakeF_any _).mono ?_
          rintro e w11 ⟨rfl, hb11⟩
          have HB11 := Lib.hid (HBF.out.trans (hb11.mono HBF.out.size))
          go_wp2
          go_ret
          exact ⟨rfl, HB11.out⟩
    · skip
      go_simp
      obtain ⟨wa, hwa⟩ : ∃ W, W = (w0.alloc (.cells #[.slice Ag n' cg] 35)).drew := ⟨_, rfl⟩
      have hba : Below w0.heap.size w0 wa := by rw [hwa]; exact Below.drew ((Below.refl _ _).alloc (Nat.le_refl _) _)
      have hna : wa.heap[w0.heap.size]? = some (.cells #[.slice Ag n' cg] 35) := by rw [hwa]; exact heap_alloc_new w0 _
      have hla : w0.heap.size < wa.heap.size := by rw [hwa]; show w0.heap.size < (w0.alloc _).heap.size; simp
      rw [← hwa]
      clear hwa
      have ka0 := (hba.cell (p := ⟨w.heap.size, 0, none⟩) hgl0).trans a0
      have ka1 := (hba.cell (p := ⟨w.heap.size, 1, none⟩) hgl0).trans a1
      have ka2 := (hba.cell (p := ⟨w.heap.size, 2, none⟩) hgl0).trans a2
      refine hK.out _ _ ⟨ka0, ka1, ka2⟩ (fun hS => ?_)
      clear hK
      try simp only [Act.put, List.setIfInBounds_toArray, List.set_cons_zero, List.set_cons_succ]
      refine wpAnyH_oneD (i := 2) rfl (by kernel_rfl) (fun K hK => ?_)
      go_simp
      refine (ffair_any ai ae al ni ci ne ce nl cl G less Al (ns - 1) cl1 zx (wa) w0.heap.size (HG.out.below hba (Nat.le_refl _)) (HL0.out.below hba (Nat.le_refl _)) HZX.out hba.size (by omega) 30 HR.out (by omega) (by omega)).mono ?_
      rintro e wm ⟨vx, rfl, hOx, hqm, _⟩
      obtain ⟨Ax, cx, rfl, _⟩ := own_sl hOx
      have hbm : Below w0.heap.size w0 wm := hba.trans (hqm.mono hba.size)
      have hnm := (hqm.block _ hla).trans hna
      have hXm := hOx
      go_wp2_with fail
      have km0 := (hbm.cell (p := ⟨w.heap.size, 0, none⟩) hgl0).trans a0
      have km1 := (hbm.cell (p := ⟨w.heap.size, 1, none⟩) hgl0).trans a1
      have km2 := (hbm.cell (p := ⟨w.heap.size, 2, none⟩) hgl0).trans a2
      refine hK.out _ _ ⟨km0, km1, km2⟩ (fun hS => ?_)
      clear hK
      try simp only [Act.put, List.setIfInBounds_toArray, List.set_cons_zero, List.set_cons_succ]
      refine wpAnyH_oneD (i := 7) rfl (by kernel_rfl) (fun K hK => ?_)
      have hlw := own_below HOL.out hbm
      have hszm := hbm.size
      refine step_push rfl (.tmp 63) (.tmp 65) 47 rfl w2.heap.size 35 1 24 sliceRowsB _ (ns - 1) vl hlw (by rfl) w0.heap.size #[.slice Ag n' cg] (by rfl) hnm rfl (by simp [Value.oneCell']) (by omega) (by omega) (by omega) ?_
      intro v9 w9 hO9 ht9 _ _
      obtain ⟨A9, c9, rfl, hs9⟩ := own_sl hO9
      have hb9 : Below w2.heap.size wm w9 := ht9.below (by omega) (fun k hk e => by have := (hlw.lt k e).1; omega)
      have hX9 := own_tch hXm ht9 (fun g hg e => own_ne hXm hlw (by decide) g hg e)
      have hGm := own_below HOG.out hbm
      have hG9 := own_tch hGm ht9 (fun g hg e => own_ne hGm hlw (by decide) g hg e)
      have hZm := own_below (own_below HOZ.out hb20) hbm
      have hZ9 := own_tch hZm ht9 (fun g hg e => own_ne hZm hlw (by decide) g hg e)
      have hb29 : Below w2.heap.size w2 w9 := hb20.trans ((hbm.mono hz20).trans hb9)
      have hsz9 := hb29.size
      have hE9 : Sl2 w9 w9.heap.size 1 A9 (ns - 1 + 1) c9 ((less ++ [gs]).map bcells) := (((HHL.out.below hb29 (Nat.le_refl _)).up hsz9).app (Hdrs.single (own_slE hG9))).sl2 hs9
      have hGr9 := (HG2.out.below hb29 (Nat.le_refl _)).up hsz9
      have HE9 := Lib.hid hE9
      have HGr9 := Lib.hid hGr9
      have HX9 := Lib.hid hX9
      have HZ9 := Lib.hid hZ9
      have q90 := (hb29.cell (p := ⟨w.heap.size, 0, none⟩) hgl).trans HA2.out.1
      have q91 := (hb29.cell (p := ⟨w.heap.size, 1, none⟩) hgl).trans HA2.out.2.1
      have q92 := (hb29.cell (p := ⟨w.heap.size, 2, none⟩) hgl).trans HA2.out.2.2
      have hgl9 : w.heap.size < w9.heap.size := by omega
      clear hE9 hGr9 hX9 hZ9 hG9 hGm hZm hs9 hO9 ht9
      refine hK.out _ _ ⟨q90, q91, q92⟩ (fun hS => ?_)
      clear hK
      try simp only [Act.put, List.setIfInBounds_toArray, List.set_cons_zero, List.set_cons_succ]
      refine wpAnyH_oneD (i := 8) rfl (by kernel_rfl) (fun K hK => ?_)
      go_simp
      refine (ffair_any ai ae al ni ci ne ce nl cl G (less ++ [gs]) A9 (ns - 1 + 1) c9 zy w9 w9.heap.size HGr9.out HE9.out HZY.out (Nat.le_refl _) (by omega) 30 HR.out (by omega) (by omega)).mono ?_
      rintro e w10 ⟨vy, rfl, hOy, hb10, _⟩
      obtain ⟨Ay, cy, rfl, _⟩ := own_sl hOy
      have qA0 := (hb10.cell (p := ⟨w.heap.size, 0, none⟩) hgl9).trans q90
      have qA1 := (hb10.cell (p := ⟨w.heap.size, 1, none⟩) hgl9).trans q91
      have qA2 := (hb10.cell (p := ⟨w.heap.size, 2, none⟩) hgl9).trans q92
      go_wp2_with fail
      refine hK.out _ _ ⟨qA0, qA1, qA2⟩ (fun hS => ?_)
      clear hK
      try simp only [Act.put, List.setIfInBounds_toArray, List.set_cons_zero, List.set_cons_succ]
      refine wpAnyH_takeD (i := 9) (v := ?_) rfl (by kernel_rfl) (by kernel_rfl) (by kernel_rfl) (fun _ _ _ h => h) (Or.inl ⟨by kernel_rfl, ?_⟩) hS ?_
      rotate_left 1
      · (intro w' hSw; (try dsimp only at hSw); go_simp; try (with_reducible rfl))
      try simp only [Act.put, List.setIfInBounds_toArray, List.set_cons_zero, List.set_cons_succ]
      refine wpAnyH_takeD (i := 10) (v := ?_) rfl (by kernel_rfl) (by kernel_rfl) (by kernel_rfl) (fun _ _ _ h => h) (Or.inl ⟨by kernel_rfl, ?_⟩) hS ?_
      rotate_left 1
      · (intro w' hSw; (try dsimp only at hSw); go_simp; try (with_reducible rfl))
      try simp only [Act.put, List.setIfInBounds_toArray, List.set_cons_zero, List.set_cons_succ]
      refine wpAnyH_done (by kernel_rfl) ?_ _
      have hsx := own_slE (own_below HX9.out hb10)
      have hsy := own_slE hOy
      have hsz := own_slE (own_below HZ9.out hb10)
      have HBF := Lib.hid (hbb.trans ((hbw2.trans ((hb29.trans (hb10.mono hsz9)).mono (by omega))).mono (by omega)))
      have hd0 : ((ne : Int) != (ne : Int)) = false := by simp
      clear q90 q91 q92 qA0 qA1 qA2
      go_wp2
      go_loopw [15] (fun i wr => ∃ t : Nat, t ≤ ne ∧ i = .int .i64 t ∧ wr = w10) (fun i _ => ne - (intOf i).toNat)
      case atStart => exact ⟨0, by omega, rfl, rfl⟩
      case round =>
        obtain ⟨t, ht, rfl, rfl⟩ := hrel
        by_cases hlt : t < ne
        · obtain ⟨bx, ox, hAx, _, hcx⟩ := hsx.rd.at_ (bcells'_at (show t < zx.length by rw [← HXN.out]; exact hlt))
          obtain ⟨by_, oy, hAy, _, hcy⟩ := hsy.rd.at_ (bcells'_at (show t < zy.length by rw [← HYN.out]; exact hlt))
          obtain ⟨bz, oz, hAz, _, hcz⟩ := hsz.rd.at_ (bcells'_at (show t < z.length by rw [← HZN.out]; exact hlt))
          subst hAx hAy hAz
          have e1 := HZX1.out t
          have e2 := HZY1.out t
          have e3 := HYX1.out t
          generalize zx.getD t false = bx' at *
          generalize zy.getD t false = by' at *
          generalize z.getD t false = bz' at *
          have t0 : (0 : Int) ≤ (t : Int) := by omega
          have t1 : (t : Int) < (ne : Int) := by omega
          cases bz' <;> cases bx' <;> cases by'
          all_goals first | exact absurd (e1 rfl) (by decide) | exact absurd (e2 rfl) (by decide) | exact absurd (e3 rfl) (by decide) | skip
          all_goals
            clear e1 e2 e3
            go_wp2
            go_roundw
            case rel => exact ⟨t + 1, by omega, by go_num, by trivial⟩
            case measure => simp [intOf]; omega
        · clear hsx hsy hsz
          go_wp2_with fail
          refine (awakeF_any _).mono ?_
          rintro e w11 ⟨rfl, hb11⟩
          have HB11 := Lib.hid (HBF.out.trans (hb11.mono HBF.out.size))
          go_wp2
          go_ret
          exact ⟨rfl, HB11.out⟩
  · have hd1 : decide ((0 : Int) < (n' : Int)) = true := by simp; omega
    have hd2 : 0 < n' := by omega
    have hn0' : ((n' : Int) == 0) = false := by simpa using hn0
    obtain ⟨m, hm, hml⟩ : ∃ m : Nat, ((y : Int) % (n' : Int)) = (m : Int) ∧ m < n' := ⟨y % n', by simp, Nat.mod_lt _ (by omega)⟩
    have m0 : (0 : Int) ≤ (m : Int) := by omega
    have m1 : (m : Int) < (n' : Int) := by omega
    go_wp2_with (at_builtin; refine wpList_extend rfl (.tmp 43) (.tmp 47) 35 rfl w2.heap.size 4 1 1 sliceBool _ _ _ hb0 rfl w2.heap.size A' n' c' (bcells s) rfl hrow3 hbl (by omega) (by omega) hbb2 ?_; intro v4 w4 hO4 ht4 _ _; rw [Nat.zero_add, List.nil_append] at hO4; obtain ⟨gb, cg, rfl, hgb1, hgb2, _⟩ := own_form hO4 (by omega); have hfm := hO4.frozenAt m; obtain ⟨bv, hcm'⟩ : ∃ bv, w4.cell? ⟨gb, m, none⟩ = some (.bool bv) := ⟨s.getD m false, by rw [hO4.cellAt m (by omega)]; simp [bcells, List.getD, show m < s.length by rw [← HN'.out]; exact hml]⟩)
    have hb34 : Below w3.heap.size w3 w4 := ((Below.refl w3.heap.size w3).alloc (Nat.le_refl _) (.cells #[] 4)).trans (ht4.below (by simp) (fun g hg e => by simp [Value.ownBlock] at e; omega))
    have hOl3 := own_below hO3 hb34
    have hb24 : Below w2.heap.size w2 w4 := hb3.trans (hb34.mono hz3)
    clear hrow3 hb0 ht4 hsc3 hbb2
    have hst := (hO4.stored m (.bool true)).1
    rw [show (bcells s).set m (.bool true) = bcells (s.set m true) by rw [bcells, bcells, List.map_set]] at hst
    have HST := Lib.hid hst
    have hHS : ∀ i : Nat, hasB s i = true → hasB (s.set m true) i = true := fun i hi => by
      obtain ⟨j, hj, hjl, hjs⟩ := hasB_iff.1 hi
      refine hasB_iff.2 ⟨j, hj, by simpa using hjl, ?_⟩
      rw [set_getD_ite (by rw [← HN'.out]; exact hml), hjs]; split <;> rfl
    have HHS := Lib.hid hHS
    have hOlS := own_tch hOl3 ((Tch.refl (fun k => k = gb) w4).setCell (p := ⟨gb, m, none⟩) (fun _ => rfl) (.bool true)) (fun g hg e => own_ne hOl3 hO4 (by decide) g hg (by rw [e]; rfl))
    have hb24S := hb24.setCell (p := ⟨gb, m, none⟩) hgb1 (.bool true)
    have HOlS := Lib.hid hOlS
    have HbS := Lib.hid hb24S
    clear hst hn0 hHS hOlS hb24S hO4 hOl3
    go_wp2_with fail
    obtain ⟨w0, hw0⟩ : ∃ W, W = w4.setCell ⟨gb, m, none⟩ (.bool true) := ⟨_, rfl⟩
    have hOl := HOlS.out
    have hOg := HST.out
    have hb20 := HbS.out
    rw [← hw0] at hOl hOg hb20
    rw [← hw0]
    obtain ⟨gs, hgs⟩ : ∃ gs, gs = s.set m true := ⟨_, rfl⟩
    have HGS : Hid (∀ i : Nat, hasB s i = true → hasB gs i = true) := Lib.hid (by rw [hgs]; exact HHS.out)
    rw [← hgs] at hOg
    obtain ⟨Ag, hAg⟩ : ∃ A : Option Addr, A = some ⟨gb, 0, none⟩ := ⟨_, rfl⟩
    rw [← hAg] at hOg
    rw [← hAg]
    clear hgs hAg hw0 HOlS HST HbS hcm' hfm hm m0 m1
    have hz20 := hb20.size
    have hbw0 : Below wb.heap.size wb w0 := hbw2.trans (hb20.mono (by omega))
    have a20 := (hbw2.cell (p := ⟨w.heap.size, 0, none⟩) hgb).trans hx0
    have a21 := (hbw2.cell (p := ⟨w.heap.size, 1, none⟩) hgb).trans hx1
    have a22 := (hbw2.cell (p := ⟨w.heap.size, 2, none⟩) hgb).trans hx2
    have HA2 := Lib.hid (And.intro a20 (And.intro a21 a22))
    have a0 := (hbw0.cell (p := ⟨w.heap.size, 0, none⟩) hgb).trans hx0
    have a1 := (hbw0.cell (p := ⟨w.heap.size, 1, none⟩) hgb).trans hx1
    have a2 := (hbw0.cell (p := ⟨w.heap.size, 2, none⟩) hgb).trans hx2
    have hgl : w.heap.size < w2.heap.size := by omega
    have hgl0 : w.heap.size < w0.heap.size := by omega
    obtain ⟨less, hless⟩ : ∃ l, l = sets.take k ++ sets.drop (k + 1) := ⟨_, rfl⟩
    obtain ⟨vl, hvl⟩ : ∃ l, l = vs.take k ++ vs.drop (k + 1) := ⟨_, rfl⟩
    have hHL : Hdrs w2 w2.heap.size vl less := by rw [hvl, hless]; exact (HHD.out.take k).app (HHD.out.drop (k + 1))
    rw [← hvl] at hOl
    obtain ⟨zx, hzx⟩ := gfp_exists G.edges (asksOf less)
    obtain ⟨zy, hzy⟩ := gfp_exists G.edges (asksOf (less ++ [gs]))
    have hlm : ∀ s' ∈ less, s' ∈ sets := fun s' hs' => by
      rw [hless] at hs'
      rcases List.mem_append.1 hs' with h' | h'
      · exact List.mem_of_mem_take h'
      · exact List.mem_of_mem_drop h'
    have hzx1 : SubB z zx := gfp_less HZ.out hzx (asks_sub (fun s' hs' => ⟨s', hlm s' hs', fun _ h => h⟩))
    have hzy1 : SubB z zy := gfp_less HZ.out hzy (asks_sub (fun s' hs' => by
      rcases List.mem_append.1 hs' with h' | h'
      · exact ⟨s', hlm s' h', fun _ h => h⟩
      · rw [List.mem_singleton] at h'
        rw [h']
        exact ⟨s, HSm.out, HGS.out⟩))
    have hyx1 : SubB zy zx := gfp_less hzy hzx (asks_sub (fun s' hs' => ⟨s', List.mem_append_left _ hs', fun _ h => h⟩))
    have HXN : Hid (ne = zx.length) := Lib.hid (by rw [hzx.1, ← HZ.out.1]; exact HZN.out)
    have HYN : Hid (ne = zy.length) := Lib.hid (by rw [hzy.1, ← HZ.out.1]; exact HZN.out)
    have HZX1 := Lib.hid hzx1
    have HZY1 := Lib.hid hzy1
    have HYX1 := Lib.hid hyx1
    have HZX := Lib.hid hzx
    have HZY := Lib.hid hzy
    have HHL := Lib.hid hHL
    have HL0 := Lib.hid (((hHL.below hb20 (Nat.le_refl _)).up hz20).sl2 (own_slE hOl))
    have HG2 := Lib.hid (hG1 w2 hbw2)
    have HG := Lib.hid (hG1 w0 hbw0)
    have HOL := Lib.hid hOl
    have HOG := Lib.hid hOg
    have HOZ := Lib.hid hOz
    have hb00 : Below w0.heap.size w0 w0.drew := Below.drew (Below.refl _ _)
    clear hless hvl hHL hzx hzy hlm hzx1 hzy1 hyx1 hOl hOg a20 a21 a22 hx0 hx1 hx2 hG1 hE1 hOz h' hs' HHV
    refine wp_region_held_drew (S := fun w' => w'.cell? ⟨w.heap.size, 0, none⟩ = some (.slice ai ni ci) ∧ w'.cell? ⟨w.heap.size, 1, none⟩ = some (.slice ae ne ce) ∧ w'.cell? ⟨w.heap.size, 2, none⟩ = some (.slice al nl cl)) (by kernel_rfl) ⟨a0, a1, a2⟩ (fun hS => ?_)
    refine wpAnyH_takeD (i := 0) (v := ?_) rfl (by kernel_rfl) (by kernel_rfl) (by kernel_rfl) (fun _ _ _ h => h) (Or.inl ⟨by kernel_rfl, ?_⟩) hS ?_
    rotate_left 1
    · (intro w' hSw; (try dsimp only at hSw); go_simp; try (with_reducible rfl))
    try simp only [Act.put, List.setIfInBounds_toArray, List.set_cons_zero, List.set_cons_succ]
    refine wpAnyH_takeD (i := 1) (v := ?_) rfl (by kernel_rfl) (by kernel_rfl) (by kernel_rfl) (fun _ _ _ h => h) (Or.inl ⟨by kernel_rfl, ?_⟩) hS ?_
    rotate_left 1
    · (intro w' hSw; (try dsimp only at hSw); go_simp; try (with_reducible rfl))
    try simp only [Act.put, List.setIfInBounds_toArray, List.set_cons_zero, List.set_cons_succ]
    refine wpAnyH_takeD (i := 3) (v := ?_) rfl (by kernel_rfl) (by kernel_rfl) (by kernel_rfl) (fun _ _ _ h => h) (Or.inl ⟨by kernel_rfl, ?_⟩) hS ?_
    rotate_left 1
    · (intro w' hSw; (try dsimp only at hSw); go_simp; try (with_reducible rfl))
    try simp only [Act.put, List.setIfInBounds_toArray, List.set_cons_zero, List.set_cons_succ]
    refine wpAnyH_takeD (i := 4) (v := ?_) rfl (by kernel_rfl) (by kernel_rfl) (by kernel_rfl) (fun _ _ _ h => h) (Or.inl ⟨by kernel_rfl, ?_⟩) hS ?_
    rotate_left 1
    · (intro w' hSw; (try dsimp only at hSw); go_simp; try (with_reducible rfl))
    try simp only [Act.put, List.setIfInBounds_toArray, List.set_cons_zero, List.set_cons_succ]
    refine wpAnyH_takeD (i := 5) (v := ?_) rfl (by kernel_rfl) (by kernel_rfl) (by kernel_rfl) (fun _ _ _ h => h) (Or.inl ⟨by kernel_rfl, ?_⟩) hS ?_
    rotate_left 1
    · (intro w' hSw; (try dsimp only at hSw); go_simp; try (with_reducible rfl))
    try simp only [Act.put, List.setIfInBounds_toArray, List.set_cons_zero, List.set_cons_succ]
    refine wpAnyH_ready (rs := [2, 6]) (by kernel_rfl) (by simp) ?_
    refine (allReadyH_consD (i := 2) rfl (fun K hK => ?_) (allReadyH_consD (i := 6) rfl (fun K hK => ?_) AllReadyH.nil))
    · skip
      go_simp
      refine (ffair_any ai ae al ni ci ne ce nl cl G less Al (ns - 1) cl1 zx (w0.drew) w0.heap.size (HG.out.below hb00 (Nat.le_refl _)) (HL0.out.below hb00 (Nat.le_refl _)) HZX.out hb00.size (by omega) 30 HR.out (by omega) (by omega)).mono ?_
      rintro e wa ⟨vx, rfl, hOx, hqa, _⟩
      obtain ⟨Ax, cx, rfl, _⟩ := own_sl hOx
      have hba : Below w0.heap.size w0 wa := hb00.trans hqa
      go_wp2_with fail
      have ka0 := (hba.cell (p := ⟨w.heap.size, 0, none⟩) hgl0).trans a0
      have ka1 := (hba.cell (p := ⟨w.heap.size, 1, none⟩) hgl0).trans a1
      have ka2 := (hba.cell (p := ⟨w.heap.size, 2, none⟩) hgl0).trans a2
      refine hK.out _ _ ⟨ka0, ka1, ka2⟩ (fun hS => ?_)
      clear hK
      try simp only [Act.put, List.setIfInBounds_toArray, List.set_cons_zero, List.set_cons_succ]
      refine wpAnyH_oneD (i := 6) rfl (by kernel_rfl) (fun K hK => ?_)
      go_simp
      obtain ⟨wm, hwm⟩ : ∃ W, W = wa.alloc (.cells #[.slice Ag n' cg] 35) := ⟨_, rfl⟩
      have hqm : Below wa.heap.size wa wm := by rw [hwm]; exact (Below.refl _ _).alloc (Nat.le_refl _) _
      have hnm : wm.heap[wa.heap.size]? = some (.cells #[.slice Ag n' cg] 35) := by rw [hwm]; exact heap_alloc_new _ _
      rw [← hwm]
      clear hwm
      have hbm : Below w0.heap.size w0 wm := hba.trans (hqm.mono hba.size)
      have hXm := own_below hOx hqm
      have km0 := (hbm.cell (p := ⟨w.heap.size, 0, none⟩) hgl0).trans a0
      have km1 := (hbm.cell (p := ⟨w.heap.size, 1, none⟩) hgl0).trans a1
      have km2 := (hbm.cell (p := ⟨w.heap.size, 2, none⟩) hgl0).trans a2
      refine hK.out _ _ ⟨km0, km1, km2⟩ (fun hS => ?_)
      clear hK
      try simp only [Act.put, List.setIfInBounds_toArray, List.set_cons_zero, List.set_cons_succ]
      refine wpAnyH_oneD (i := 7) rfl (by kernel_rfl) (fun K hK => ?_)
      have hlw := own_below HOL.out hbm
      have hszm := hbm.size
      refine step_push rfl (.tmp 63) (.tmp 65) 47 rfl w2.heap.size 35 1 24 sliceRowsB _ (ns - 1) vl hlw (by rfl) wa.heap.size #[.slice Ag n' cg] (by rfl) hnm rfl (by simp [Value.oneCell']) (by omega) (by omega) (by omega) ?_
      intro v9 w9 hO9 ht9 _ _
      obtain ⟨A9, c9, rfl, hs9⟩ := own_sl hO9
      have hb9 : Below w2.heap.size wm w9 := ht9.below (by omega) (fun k hk e => by have := (hlw.lt k e).1; omega)
      have hX9 := own_tch hXm ht9 (fun g hg e => own_ne hXm hlw (by decide) g hg e)
      have hGm := own_below HOG.out hbm
      have hG9 := own_tch hGm ht9 (fun g hg e => own_ne hGm hlw (by decide) g hg e)
      have hZm := own_below (own_below HOZ.out hb20) hbm
      have hZ9 := own_tch hZm ht9 (fun g hg e => own_ne hZm hlw (by decide) g hg e)
      have hb29 : Below w2.heap.size w2 w9 := hb20.trans ((hbm.mono hz20).trans hb9)
      have hsz9 := hb29.size
      have hE9 : Sl2 w9 w9.heap.size 1 A9 (ns - 1 + 1) c9 ((less ++ [gs]).map bcells) := (((HHL.out.below hb29 (Nat.le_refl _)).up hsz9).app (Hdrs.single (own_slE hG9))).sl2 hs9
      have hGr9 := (HG2.out.below hb29 (Nat.le_refl _)).up hsz9
      have HE9 := Lib.hid hE9
      have HGr9 := Lib.hid hGr9
      have HX9 := Lib.hid hX9
      have HZ9 := Lib.hid hZ9
      have q90 := (hb29.cell (p := ⟨w.heap.size, 0, none⟩) hgl).trans HA2.out.1
      have q91 := (hb29.cell (p := ⟨w.heap.size, 1, none⟩) hgl).trans HA2.out.2.1
      have q92 := (hb29.cell (p := ⟨w.heap.size, 2, none⟩) hgl).trans HA2.out.2.2
      have hgl9 : w.heap.size < w9.heap.size := by omega
      clear hE9 hGr9 hX9 hZ9 hG9 hGm hZm hs9 hO9 ht9
      refine hK.out _ _ ⟨q90, q91, q92⟩ (fun hS => ?_)
      clear hK
      try simp only [Act.put, List.setIfInBounds_toArray, List.set_cons_zero, List.set_cons_succ]
      refine wpAnyH_oneD (i := 8) rfl (by kernel_rfl) (fun K hK => ?_)
      go_simp
      refine (ffair_any ai ae al ni ci ne ce nl cl G (less ++ [gs]) A9 (ns - 1 + 1) c9 zy w9 w9.heap.size HGr9.out HE9.out HZY.out (Nat.le_refl _) (by omega) 30 HR.out (by omega) (by omega)).mono ?_
      rintro e w10 ⟨vy, rfl, hOy, hb10, _⟩
      obtain ⟨Ay, cy, rfl, _⟩ := own_sl hOy
      have qA0 := (hb10.cell (p := ⟨w.heap.size, 0, none⟩) hgl9).trans q90
      have qA1 := (hb10.cell (p := ⟨w.heap.size, 1, none⟩) hgl9).trans q91
      have qA2 := (hb10.cell (p := ⟨w.heap.size, 2, none⟩) hgl9).trans q92
      go_wp2_with fail
      refine hK.out _ _ ⟨qA0, qA1, qA2⟩ (fun hS => ?_)
      clear hK
      try simp only [Act.put, List.setIfInBounds_toArray, List.set_cons_zero, List.set_cons_succ]
      refine wpAnyH_takeD (i := 9) (v := ?_) rfl (by kernel_rfl) (by kernel_rfl) (by kernel_rfl) (fun _ _ _ h => h) (Or.inl ⟨by kernel_rfl, ?_⟩) hS ?_
      rotate_left 1
      · (intro w' hSw; (try dsimp only at hSw); go_simp; try (with_reducible rfl))
      try simp only [Act.put, List.setIfInBounds_toArray, List.set_cons_zero, List.set_cons_succ]
      refine wpAnyH_takeD (i := 10) (v := ?_) rfl (by kernel_rfl) (by kernel_rfl) (by kernel_rfl) (fun _ _ _ h => h) (Or.inl ⟨by kernel_rfl, ?_⟩) hS ?_
      rotate_left 1
      · (intro w' hSw; (try dsimp only at hSw); go_simp; try (with_reducible rfl))
      try simp only [Act.put, List.setIfInBounds_toArray, List.set_cons_zero, List.set_cons_succ]
      refine wpAnyH_done (by kernel_rfl) ?_ _
      have hsx := own_slE (own_below HX9.out hb10)
      have hsy := own_slE hOy
      have hsz := own_slE (own_below HZ9.out hb10)
      have HBF := Lib.hid (hbb.trans ((hbw2.trans ((hb29.trans (hb10.mono hsz9)).mono (by omega))).mono (by omega)))
      have hd0 : ((ne : Int) != (ne : Int)) = false := by simp
      clear q90 q91 q92 qA0 qA1 qA2
      go_wp2
      go_loopw [15] (fun i wr => ∃ t : Nat, t ≤ ne ∧ i = .int .i64 t ∧ wr = w10) (fun i _ => ne - (intOf i).toNat)
      case atStart => exact ⟨0, by omega, rfl, rfl⟩
      case round =>
        obtain ⟨t, ht, rfl, rfl⟩ := hrel
        by_cases hlt : t < ne
        · obtain ⟨bx, ox, hAx, _, hcx⟩ := hsx.rd.at_ (bcells'_at (show t < zx.length by rw [← HXN.out]; exact hlt))
          obtain ⟨by_, oy, hAy, _, hcy⟩ := hsy.rd.at_ (bcells'_at (show t < zy.length by rw [← HYN.out]; exact hlt))
          obtain ⟨bz, oz, hAz, _, hcz⟩ := hsz.rd.at_ (bcells'_at (show t < z.length by rw [← HZN.out]; exact hlt))
          subst hAx hAy hAz
          have e1 := HZX1.out t
          have e2 := HZY1.out t
          have e3 := HYX1.out t
          generalize zx.getD t false = bx' at *
          generalize zy.getD t false = by' at *
          generalize z.getD t false = bz' at *
          have t0 : (0 : Int) ≤ (t : Int) := by omega
          have t1 : (t : Int) < (ne : Int) := by omega
          cases bz' <;> cases bx' <;> cases by'
          all_goals first | exact absurd (e1 rfl) (by decide) | exact absurd (e2 rfl) (by decide) | exact absurd (e3 rfl) (by decide) | skip
          all_goals
            clear e1 e2 e3
            go_wp2
            go_roundw
            case rel => exact ⟨t + 1, by omega, by go_num, by trivial⟩
            case measure => simp [intOf]; omega
        · clear hsx hsy hsz
          go_wp2_with fail
          refine (awakeF_any _).mono ?_
          rintro e w11 ⟨rfl, hb11⟩
          have HB11 := Lib.hid (HBF.out.trans (hb11.mono HBF.out.size))
          go_wp2
          go_ret
          exact ⟨rfl, HB11.out⟩
    · skip
      go_simp
      obtain ⟨wa, hwa⟩ : ∃ W, W = (w0.alloc (.cells #[.slice Ag n' cg] 35)).drew := ⟨_, rfl⟩
      have hba : Below w0.heap.size w0 wa := by rw [hwa]; exact Below.drew ((Below.refl _ _).alloc (Nat.le_refl _) _)
      have hna : wa.heap[w0.heap.size]? = some (.cells #[.slice Ag n' cg] 35) := by rw [hwa]; exact heap_alloc_new w0 _
      have hla : w0.heap.size < wa.heap.size := by rw [hwa]; show w0.heap.size < (w0.alloc _).heap.size; simp
      rw [← hwa]
      clear hwa
      have ka0 := (hba.cell (p := ⟨w.heap.size, 0, none⟩) hgl0).trans a0
      have ka1 := (hba.cell (p := ⟨w.heap.size, 1, none⟩) hgl0).trans a1
      have ka2 := (hba.cell (p := ⟨w.heap.size, 2, none⟩) hgl0).trans a2
      refine hK.out _ _ ⟨ka0, ka1, ka2⟩ (fun hS => ?_)
      clear hK
      try simp only [Act.put, List.setIfInBounds_toArray, List.set_cons_zero, List.set_cons_succ]
      refine wpAnyH_oneD (i := 2) rfl (by kernel_rfl) (fun K hK => ?_)
      go_simp
      refine (ffair_any ai ae al ni ci ne ce nl cl G less Al (ns - 1) cl1 zx (wa) w0.heap.size (HG.out.below hba (Nat.le_refl _)) (HL0.out.below hba (Nat.le_refl _)) HZX.out hba.size (by omega) 30 HR.out (by omega) (by omega)).mono ?_
      rintro e wm ⟨vx, rfl, hOx, hqm, _⟩
      obtain ⟨Ax, cx, rfl, _⟩ := own_sl hOx
      have hbm : Below w0.heap.size w0 wm := hba.trans (hqm.mono hba.size)
      have hnm := (hqm.block _ hla).trans hna
      have hXm := hOx
      go_wp2_with fail
      have km0 := (hbm.cell (p := ⟨w.heap.size, 0, none⟩) hgl0).trans a0
      have km1 := (hbm.cell (p := ⟨w.heap.size, 1, none⟩) hgl0).trans a1
      have km2 := (hbm.cell (p := ⟨w.heap.size, 2, none⟩) hgl0).trans a2
      refine hK.out _ _ ⟨km0, km1, km2⟩ (fun hS => ?_)
      clear hK
      try simp only [Act.put, List.setIfInBounds_toArray, List.set_cons_zero, List.set_cons_succ]
      refine wpAnyH_oneD (i := 7) rfl (by kernel_rfl) (fun K hK => ?_)
      have hlw := own_below HOL.out hbm
      have hszm := hbm.size
      refine step_push rfl (.tmp 63) (.tmp 65) 47 rfl w2.heap.size 35 1 24 sliceRowsB _ (ns - 1) vl hlw (by rfl) w0.heap.size #[.slice Ag n' cg] (by rfl) hnm rfl (by simp [Value.oneCell']) (by omega) (by omega) (by omega) ?_
      intro v9 w9 hO9 ht9 _ _
      obtain ⟨A9, c9, rfl, hs9⟩ := own_sl hO9
      have hb9 : Below w2.heap.size wm w9 := ht9.below (by omega) (fun k hk e => by have := (hlw.lt k e).1; omega)
      have hX9 := own_tch hXm ht9 (fun g hg e => own_ne hXm hlw (by decide) g hg e)
      have hGm := own_below HOG.out hbm
      have hG9 := own_tch hGm ht9 (fun g hg e => own_ne hGm hlw (by decide) g hg e)
      have hZm := own_below (own_below HOZ.out hb20) hbm
      have hZ9 := own_tch hZm ht9 (fun g hg e => own_ne hZm hlw (by decide) g hg e)
      have hb29 : Below w2.heap.size w2 w9 := hb20.trans ((hbm.mono hz20).trans hb9)
      have hsz9 := hb29.size
      have hE9 : Sl2 w9 w9.heap.size 1 A9 (ns - 1 + 1) c9 ((less ++ [gs]).map bcells) := (((HHL.out.below hb29 (Nat.le_refl _)).up hsz9).app (Hdrs.single (own_slE hG9))).sl2 hs9
      have hGr9 := (HG2.out.below hb29 (Nat.le_refl _)).up hsz9
      have HE9 := Lib.hid hE9
      have HGr9 := Lib.hid hGr9
      have HX9 := Lib.hid hX9
      have HZ9 := Lib.hid hZ9
      have q90 := (hb29.cell (p := ⟨w.heap.size, 0, none⟩) hgl).trans HA2.out.1
      have q91 := (hb29.cell (p := ⟨w.heap.size, 1, none⟩) hgl).trans HA2.out.2.1
      have q92 := (hb29.cell (p := ⟨w.heap.size, 2, none⟩) hgl).trans HA2.out.2.2
      have hgl9 : w.heap.size < w9.heap.size := by omega
      clear hE9 hGr9 hX9 hZ9 hG9 hGm hZm hs9 hO9 ht9
      refine hK.out _ _ ⟨q90, q91, q92⟩ (fun hS => ?_)
      clear hK
      try simp only [Act.put, List.setIfInBounds_toArray, List.set_cons_zero, List.set_cons_succ]
      refine wpAnyH_oneD (i := 8) rfl (by kernel_rfl) (fun K hK => ?_)
      go_simp
      refine (ffair_any ai ae al ni ci ne ce nl cl G (less ++ [gs]) A9 (ns - 1 + 1) c9 zy w9 w9.heap.size HGr9.out HE9.out HZY.out (Nat.le_refl _) (by omega) 30 HR.out (by omega) (by omega)).mono ?_
      rintro e w10 ⟨vy, rfl, hOy, hb10, _⟩
      obtain ⟨Ay, cy, rfl, _⟩ := own_sl hOy
      have qA0 := (hb10.cell (p := ⟨w.heap.size, 0, none⟩) hgl9).trans q90
      have qA1 := (hb10.cell (p := ⟨w.heap.size, 1, none⟩) hgl9).trans q91
      have qA2 := (hb10.cell (p := ⟨w.heap.size, 2, none⟩) hgl9).trans q92
      go_wp2_with fail
      refine hK.out _ _ ⟨qA0, qA1, qA2⟩ (fun hS => ?_)
      clear hK
      try simp only [Act.put, List.setIfInBounds_toArray, List.set_cons_zero, List.set_cons_succ]
      refine wpAnyH_takeD (i := 9) (v := ?_) rfl (by kernel_rfl) (by kernel_rfl) (by kernel_rfl) (fun _ _ _ h => h) (Or.inl ⟨by kernel_rfl, ?_⟩) hS ?_
      rotate_left 1
      · (intro w' hSw; (try dsimp only at hSw); go_simp; try (with_reducible rfl))
      try simp only [Act.put, List.setIfInBounds_toArray, List.set_cons_zero, List.set_cons_succ]
      refine wpAnyH_takeD (i := 10) (v := ?_) rfl (by kernel_rfl) (by kernel_rfl) (by kernel_rfl) (fun _ _ _ h => h) (Or.inl ⟨by kernel_rfl, ?_⟩) hS ?_
      rotate_left 1
      · (intro w' hSw; (try dsimp only at hSw); go_simp; try (with_reducible rfl))
      try simp only [Act.put, List.setIfInBounds_toArray, List.set_cons_zero, List.set_cons_succ]
      refine wpAnyH_done (by kernel_rfl) ?_ _
      have hsx := own_slE (own_below HX9.out hb10)
      have hsy := own_slE hOy
      have hsz := own_slE (own_below HZ9.out hb10)
      have HBF := Lib.hid (hbb.trans ((hbw2.trans ((hb29.trans (hb10.mono hsz9)).mono (by omega))).mono (by omega)))
      have hd0 : ((ne : Int) != (ne : Int)) = false := by simp
      clear q90 q91 q92 qA0 qA1 qA2
      go_wp2
      go_loopw [15] (fun i wr => ∃ t : Nat, t ≤ ne ∧ i = .int .i64 t ∧ wr = w10) (fun i _ => ne - (intOf i).toNat)
      case atStart => exact ⟨0, by omega, rfl, rfl⟩
      case round =>
        obtain ⟨t, ht, rfl, rfl⟩ := hrel
        by_cases hlt : t < ne
        · obtain ⟨bx, ox, hAx, _, hcx⟩ := hsx.rd.at_ (bcells'_at (show t < zx.length by rw [← HXN.out]; exact hlt))
          obtain ⟨by_, oy, hAy, _, hcy⟩ := hsy.rd.at_ (bcells'_at (show t < zy.length by rw [← HYN.out]; exact hlt))
          obtain ⟨bz, oz, hAz, _, hcz⟩ := hsz.rd.at_ (bcells'_at (show t < z.length by rw [← HZN.out]; exact hlt))
          subst hAx hAy hAz
          have e1 := HZX1.out t
          have e2 := HZY1.out t
          have e3 := HYX1.out t
          generalize zx.getD t false = bx' at *
          generalize zy.getD t false = by' at *
          generalize z.getD t false = bz' at *
          have t0 : (0 : Int) ≤ (t : Int) := by omega
          have t1 : (t : Int) < (ne : Int) := by omega
          cases bz' <;> cases bx' <;> cases by'
          all_goals first | exact absurd (e1 rfl) (by decide) | exact absurd (e2 rfl) (by decide) | exact absurd (e3 rfl) (by decide) | skip
          all_goals
            clear e1 e2 e3
            go_wp2
            go_roundw
            case rel => exact ⟨t + 1, by omega, by go_num, by trivial⟩
            case measure => simp [intOf]; omega
        · clear hsx hsy hsz
          go_wp2_with fail
          refine (awakeF_any _).mono ?_
          rintro e w11 ⟨rfl, hb11⟩
          have HB11 := Lib.hid (HBF.out.trans (hb11.mono HBF.out.size))
          go_wp2
          go_ret
          exact ⟨rfl, HB11.out⟩
theorem FixMore_int (As : Option Addr) (ns cs : Nat) (G : Gph) (sets : List (List Bool)) (x y : Int) (w : World) (B : Nat) (h : GrRd w B ai ni ci ae ne ce al nl cl G) (hs : Sl2 w B 1 As ns cs (sets.map bcells)) (hB : B ≤ w.heap.size) (hx0 : 0 ≤ x) (hx : x ≤ 255) (hy0 : 0 ≤ y) (hy : y ≤ 255) :
    Calls Try.prog 14 #[.agg #[.slice ai ni ci, .slice ae ne ce, .slice al nl cl], .slice As ns cs, .int .u8 x, .int .u8 y] w (Tru w true) := by
  obtain ⟨a, rfl⟩ := Int.eq_ofNat_of_zero_le hx0
  obtain ⟨b, rfl⟩ := Int.eq_ofNat_of_zero_le hy0
  exact FixMore_any ai ae al ni ci ne ce nl cl As ns cs G sets a b w B h hs hB (by omega) (by omega)
end
end Go.Proofs.Ytfpncpjdmgfkbaa
