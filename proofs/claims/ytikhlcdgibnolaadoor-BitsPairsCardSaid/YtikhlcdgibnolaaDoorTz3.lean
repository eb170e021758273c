/- The walk of the laws' numbers of layer 3: what an iterator tells. -/
import Derived.Test.YtikhlcdgibnolaaDoorTz2
import Derived.Test.YtikhlcdgibnolaaDoorTr3
import Derived.Maps.OwnIn
namespace Go.Proofs.YtikhlcdgibnolaaDoor
open Go.RowKit Go.Shelf

attribute [local go_sem] Oper.semAt_some

theorem infoInt : (Tryd.prog.info? 3).map (fun i => (i.zero, i.size, i.bytes)) = some (some (.int .i64 0), 1, 8) := by kernel_rfl
/-- A row of numbers that reads, and true. -/
def NumsPost (w : World) (l : List Nat) (en : Ending) (w' : World) : Prop :=
  ∃ A c, en = .returned (.tuple #[.slice A l.length c, .bool true]) ∧ Sl w' w'.heap.size 1 A l.length c (icells (natI l)) ∧ Below w.heap.size w w'

theorem funcIn_ne_nil (d f : Nat) (cs : Array Value) (w : World) : (Op.equalIn (d + 1) 24 (.func (.func f) #[] cs) Value.nilFunc).run Tryd.prog w = .ok false w := by
  simp [Op.equalIn, run_underlying Tryd.underlying24]
theorem func_ne_nil (f : Nat) (cs : Array Value) (w : World) : (binOp .eql 24 (.func (.func f) #[] cs) Value.nilFunc).run Tryd.prog w = .ok (.bool false) w := by
  have h : (Op.equal 24 (.func (.func f) #[] cs) Value.nilFunc).run Tryd.prog w = .ok false w := funcIn_ne_nil 9999 f cs w
  simp [binOp, h]
set_option maxRecDepth 100000 in
set_option maxHeartbeats 4000000 in
theorem numbers_in (m : Nat) (hm : 6 ≤ m) (S q n : Nat) (X : List Nat) (w : World) (most : Nat) (h1 : 1 ≤ most) (h2 : most ≤ 1000000) (hg : 0 < w.heap.size) (hX : BSet S q n X w) (hT : TabAt 0 Lib.deBruijn64tab w) :
    CallsIn Fence.wide m Tryd.prog 25 #[.pointer (some ⟨S, 0, none⟩), .int .i64 (most : Int)] w (NumsPost w ((numsW X).take most)) := by
  have h1m : 1 ≤ m := by omega
  obtain ⟨i0, hi, hz0, hz1, hz2⟩ := info_parts infoInt
  have hne := func_ne_nil 39
  refine callsIn_of_wp_marks Tryd.func25 rfl trivial ?_ rfl
  simp only [Tryd.ntmps25, List.size_toArray, List.length_cons, List.length_nil, Nat.reduceAdd, Nat.reduceSub, Array.replicate_succ, Array.replicate_zero, List.push_toArray, List.append_toArray, List.nil_append, List.cons_append]
  gi_wp2_with (refine ⟨trivial, ?_⟩; gi_at_call 33; refine (callsIn_wide.2 (all_any _ _)).mono ?_; rintro e w' ⟨rfl, rfl⟩)
  obtain ⟨W0, hW0⟩ : ∃ W0, ((w.alloc (.cells #[.int .i64 (most : Int)] 3)).alloc (.cells #[.slice none 0 0] 26)).alloc (.cells #[.pointer (some ⟨S, 0, none⟩)] 32) = W0 := ⟨_, rfl⟩
  have bM : Boxed W0 w.heap.size 3 (.int .i64 (most : Int)) := by rw [← hW0]; exact ((Boxed.new w _ _).alloc _).alloc _
  have bO : Boxed W0 (w.heap.size + 1) 26 (.slice none 0 0) := by
    rw [← hW0]; have := (Boxed.new (w.alloc (.cells #[.int .i64 (most : Int)] 3)) 26 (.slice none 0 0)).alloc (.cells #[.pointer (some ⟨S, 0, none⟩)] 32); rwa [World.size_alloc] at this
  have bS : Boxed W0 (w.heap.size + 2) 32 (.pointer (some ⟨S, 0, none⟩)) := by
    rw [← hW0]; have := Boxed.new ((w.alloc (.cells #[.int .i64 (most : Int)] 3)).alloc (.cells #[.slice none 0 0] 26)) 32 (.pointer (some ⟨S, 0, none⟩)); simpa [World.size_alloc] using this
  have hB0 : Below w.heap.size w W0 := by rw [← hW0]; exact (((Below.refl _ w).alloc (Nat.le_refl _) _).alloc (by simp) _).alloc (by simp; omega) _
  have hsz : W0.heap.size = w.heap.size + 3 := by rw [← hW0]; simp
  have hX0 := hX.below hB0
  have hT0 : TabAt 0 Lib.deBruijn64tab W0 := fun j hj => (hB0.cell (p := ⟨_, j, none⟩) hg).trans (hT j hj)
  have hqw := hX.lt.2
  rw [hW0]
  clear hW0 hne
  refine wpIn_rangeFunc_T rfl h1m (gf := 39) (lb := #[.pointer (some ⟨w.heap.size + 2, 0, none⟩)]) rfl trivial (enters_of Tryd.func39 (by kernel_rfl) rfl)
    (all_T (m - 1) (by omega) (w.heap.size + 2) S q n X (fun k => k = w.heap.size + 1) W0 (fun k e => by omega) (by omega) (fun e => by omega) bS.cell (by omega) hX0 (fun e => by omega) hT0) (fun k e => by omega) (fun _ => rfl)
    (fun s V => (((∃ v, Boxed V (w.heap.size + 1) 26 v ∧ V.ownsRow w.heap.size 3 1 v s.1.length (icells (natI s.1)) ∧ (s.2 (w.heap.size + 1) ∧ ∀ j, v.ownBlock = some j → s.2 j)) ∧ Boxed V w.heap.size 3 (.int .i64 (most : Int))) ∧ Below w.heap.size w V) ∧ (s.1.length < most ∧ ¬ s.2 w.heap.size))
    (fun c s V => (((∃ v, Boxed V (w.heap.size + 1) 26 v ∧ V.ownsRow w.heap.size 3 1 v s.1.length (icells (natI s.1)) ∧ (s.2 (w.heap.size + 1) ∧ ∀ j, v.ownBlock = some j → s.2 j)) ∧ Boxed V w.heap.size 3 (.int .i64 (most : Int))) ∧ Below w.heap.size w V) ∧ (s.1.length = most ∧ c = .exit 0))
    (OwnFrom.and (OwnFrom.and (OwnFrom.and (Own.from (boxedRow_own w.heap.size (w.heap.size + 1) 26 3 1 (fun l => icells (natI l)) (fun l => l.length)) _) (Own.from (boxed_own _ _ _) _)) (ownFrom_below (Nat.le_refl _) (by omega))) (ownFrom_pure _ _))
    (fun c => OwnFrom.and (OwnFrom.and (OwnFrom.and (Own.from (boxedRow_own w.heap.size (w.heap.size + 1) 26 3 1 (fun l => icells (natI l)) (fun l => l.length)) _) (Own.from (boxed_own _ _ _) _)) (ownFrom_below (Nat.le_refl _) (by omega))) (ownFrom_pure _ _))
    ⟨⟨⟨⟨_, bO, by simpa [icells, natI] using World.ownsRow_nil W0 w.heap.size 3 1, rfl, fun j e => by simp [Value.ownBlock] at e⟩, bM⟩, hB0⟩, by simp; omega, fun e => by simp at e⟩
    (fun i a' _ => a' = { tmps := #[.pointer (some ⟨S, 0, none⟩), .int .i64 (most : Int), undef, .pointer (some ⟨w.heap.size, 0, none⟩), .slice none 0 0, .bool false, .pointer (some ⟨w.heap.size + 1, 0, none⟩), .func (.func 39) #[] #[.pointer (some ⟨w.heap.size + 1 + 1, 0, none⟩)], .int .i64 (i : Int), .pointer (some ⟨S, 0, none⟩),
      .func (.func 39) #[] #[.pointer (some ⟨w.heap.size + 1 + 1, 0, none⟩)], .func (.func 39) #[] #[.pointer (some ⟨w.heap.size + 1 + 1, 0, none⟩)], .bool false, .func (.func 39) #[] #[.pointer (some ⟨w.heap.size + 1 + 1, 0, none⟩)], .int .i64 (i : Int), undef, undef, undef, undef, undef, undef, undef, undef, undef], defers := [] })
    (fun _ _ _ _ _ _ hs _ _ => hs) ?assign ?body ?done ?stop
  case assign =>
    intro l2 pre i N1 V K hi _ hK
    gi_wp2
    exact hK _ _ (Tch.refl _ _) hi rfl
  case body =>
    rintro l2 pre i N1 a2 V hl2 _ _ hNV ⟨⟨⟨⟨v, hv, hrow, hNb, hNv⟩, hbm⟩, hbel⟩, hlt, hNm⟩ rfl hlen
    have hvc := hv.cell
    have hmc := Boxed.cell hbm
    have hms := Boxed.lt hbm
    dsimp only at hrow hlt hNm hNb hNv hNV
    gi_wp2_with (gi_at_builtin; refine wpListIn_append_own_at _ rfl (.tmp 15) (.tmp 17) 26 rfl w.heap.size 3 i0 (.int .i64 0) 1 8 Tryd.underlying26 hi hz0 hz1 hz2 rfl (by decide) v pre.length _ rfl (hrow.alloc _) ⟨V.heap.size, 0, none⟩ 1 1 [.int .i64 (i : Int)] rfl rfl (cell_one_new _ _ _) (by simp [Value.oneCell']) (by unfold maxLen; omega) (by omega) (by have := hbel.size; simp; omega) ?_; intro v' w1 hown' hgrow _ hat; obtain ⟨g', cap', rfl⟩ := ownsRow_succ hown'; obtain ⟨hv1, hv2, hr2, hk2, hb2⟩ := boxed_push hv (by decide) hrow hbel.size (by omega) hNV hNb hNv hown' hgrow hat; have hc1 := hv1.cell; have hf1 := hv1.frozen; have hc2 := hv2.cell; have hm2 := Boxed.cell (boxed_tch hbm hk2.tch hNm))
    · have hle : (most : Int) ≤ (pre.length : Int) + 1 := by assumption
      exact ⟨_, hk2, ⟨⟨⟨_, hv2, by rw [natI_snoc, icells_append, List.length_append]; exact hr2, .inl hNb, fun j e => .inr e⟩, boxed_tch hbm hk2.tch hNm⟩, hbel.trans hb2⟩, by rw [List.length_append]; simp; omega, rfl⟩
    · have hle : ¬ (most : Int) ≤ (pre.length : Int) + 1 := by omega
      exact ⟨_, hk2, ⟨⟨⟨_, hv2, by rw [natI_snoc, icells_append, List.length_append]; exact hr2, .inl hNb, fun j e => .inr e⟩, boxed_tch hbm hk2.tch hNm⟩, hbel.trans hb2⟩, by rw [List.length_append]; simp; omega, hk2.not hms hNm⟩
  case done =>
    rintro D N1 V hD hDN ⟨⟨⟨⟨v, hv, hrow, _⟩, hbm⟩, hbel⟩, hlt, _⟩ hDv
    have hvc := hv.cell
    dsimp only at hrow hlt
    gi_wp2
    refine ⟨by simp, .inl ⟨_, _, rfl, run_takeDeferred hDv, ?_⟩⟩
    obtain ⟨A, c, rfl, hsl⟩ := own_sl (ownsRow_putObj hrow (.deferred none) hDv rfl)
    have ht : (numsW X).take most = numsW X := List.take_of_length_le (by omega)
    exact ⟨_, results_tmp2 rfl _ _ _, A, c, by rw [ht]; rfl, by rw [ht]; exact hsl, hbel.trans (belowK_b (w := w) (Nat.le_refl _) V D _ _ (by omega) hDv rfl rfl)⟩
  case stop =>
    rintro D c pre N1 V hD hDN hpre ⟨⟨⟨⟨v, hv, hrow, _⟩, hbm⟩, hbel⟩, hlt, rfl⟩ hDv
    have hvc := hv.cell
    dsimp only at hrow hlt
    gi_wp2
    refine ⟨by simp, .inl ⟨_, _, rfl, run_takeDeferred hDv, ?_⟩⟩
    obtain ⟨A, c, rfl, hsl⟩ := own_sl (ownsRow_putObj hrow (.deferred none) hDv rfl)
    have ht : (numsW X).take most = pre := by rw [← hlt]; exact (List.prefix_iff_eq_take.1 hpre).symm
    exact ⟨_, results_tmp2 rfl _ _ _, A, c, by rw [ht]; rfl, by rw [ht]; exact hsl, hbel.trans (belowK_b (w := w) (Nat.le_refl _) V D _ _ (by omega) hDv rfl rfl)⟩
/-- The same as a plain call. -/
theorem numbers_any (S q n : Nat) (X : List Nat) (w : World) (most : Nat) (h1 : 1 ≤ most) (h2 : most ≤ 1000000) (hg : 0 < w.heap.size) (hX : BSet S q n X w) (hT : TabAt 0 Lib.deBruijn64tab w) :
    Calls Tryd.prog 25 #[.pointer (some ⟨S, 0, none⟩), .int .i64 (most : Int)] w (NumsPost w ((numsW X).take most)) :=
  (callsIn_wide (n := 6)).1 (numbers_in 6 (Nat.le_refl _) S q n X w most h1 h2 hg hX hT)
end Go.Proofs.YtikhlcdgibnolaaDoor
