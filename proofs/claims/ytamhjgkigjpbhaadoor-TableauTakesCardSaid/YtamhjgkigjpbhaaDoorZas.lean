/- Texts that stand one behind the other, in one file. -/
import Derived.Test.YtamhjgkigjpbhaaDoorZal
import Derived.Test.YtamhjgkigjpbhaaDoorCv6

/- The walk of layer 23: Untils. -/
namespace Go.Proofs.YtamhjgkigjpbhaaDoor
open Go.RowKit

set_option maxHeartbeats 1000000 in
theorem Untils_any (A : Option Addr) (c : Nat) (f : List Nd) (w : World) (B : Nat) (hf : Sl w B 2 A f.length c (ncells f)) (hB : B ≤ w.heap.size) (hl : f.length ≤ 1000000000) :
    Calls Tryd.prog 20 #[.slice A f.length c] w (NewRow w 3 1 (untils f).length (icells (untils f)) (untils f = [])) := by
  go_enter Tryd.func20, Tryd.ntmps20
  go_wp2_with fail
  refine (Spans_any A c f w B hf hB hl).mono ?_
  rintro e w1 ⟨v, rfl, hown, hb, _⟩
  obtain ⟨A1, c1, rfl, hsl1⟩ := own_sl hown
  clear hown hsl1
  by_cases hw : wrong f = 0
  · have HW := Lib.hid hw
    rw [spans_len hw]
    clear hw
    have hsz := hb.size
    go_wp2
    go_loopw [3, 8] (fun u i wr => ∃ k : Nat, k ≤ f.length ∧ i = .int .i64 k ∧ wr.ownsRow w.heap.size 3 1 u (utl 0 (f.take k)).length (icells (utl 0 (f.take k))) ∧ Below w.heap.size w wr ∧ w1.heap.size ≤ wr.heap.size ∧ Hid (u = .slice none 0 0 ↔ utl 0 (f.take k) = [])) (fun _ i _ => f.length - (intOf i).toNat)
    case atStart => exact ⟨0, by omega, rfl, by simpa [utl, icells] using World.ownsRow_nil w1 w.heap.size 3 1, hb, by omega, by simp [Hid, utl]⟩
    case round =>
      obtain ⟨k, hk, rfl, hu, hbr, hszr, HN⟩ := hrel
      by_cases hlt : k < f.length
      · obtain ⟨b, o, rfl, _, hc0, hc1⟩ := rd_nd (hf.rd.below hbr hB) hlt
        have hsn := utl_snoc hlt
        have hul := utl_len (f.take k) 0
        rw [List.length_take, Nat.min_eq_left hk] at hul
        have HS := Lib.hid hsn
        clear hsn
        generalize hx : f[k] = x at *
        obtain ⟨op, n⟩ := x
        dsimp only at *
        have Hx := Lib.hid hx
        clear hx
        have hsw := hbr.size
        by_cases h3 : op = 9
        · subst h3
          go_wp2_with (at_builtin; refine wpList_push rfl (.tmp 17) (.tmp 19) 25 rfl w.heap.size 3 1 8 sliceInt _ _ _ (hu.alloc _) rfl wr.heap.size #[.int .i64 k] rfl (heap_alloc_new wr _) rfl (by simp [Value.oneCell']) (by omega) (by omega) (by simp; omega) ?_; intro v3 w3 hown3 ht3 hat3 hne3)
          have hz3 := ht3.size
          simp only [World.size_alloc] at hz3
          go_roundw
          case rel =>
            refine ⟨k + 1, by omega, by go_num, ?_, ?_, by omega, ?_⟩
            · rw [HS.out, if_pos rfl, icells_append, List.length_append]; exact hown3
            · exact (hbr.alloc hsw _).trans (ht3.below (by simp; omega) (fun g hg h => by have := (hu.lt g h).1; omega))
            · show _ ↔ _; rw [HS.out, if_pos rfl]; simp [hne3]
          case measure => simp [intOf]; omega
        · go_wp2
          go_roundw
          case rel =>
            refine ⟨k + 1, by omega, by go_num, ?_, hbr, by omega, ?_⟩
            · rw [HS.out, if_neg h3, List.append_nil]; exact hu
            · show _ ↔ _; rw [HS.out, if_neg h3, List.append_nil]; exact HN.out
          case measure => simp [intOf]; omega
      · have hkl : k = f.length := by omega
        subst hkl
        rw [List.take_of_length_le (Nat.le_refl _)] at hu HN
        go_wp2
        go_ret
        have hU : untils f = utl 0 f := by rw [untils, if_pos HW.out]
        exact ⟨_, rfl, by rw [hU]; exact hu, hbr, by rw [hU]; exact HN.out⟩
  · have hs : (spans f).length = 0 := by rw [(spans_nil_iff f).2 hw]; rfl
    rw [hs]
    have HW := Lib.hid hw
    clear hs hw
    go_wp2
    refine wp_loop_rounds 1 ?_
    rw [rounds_succ]
    go_wp2
    go_ret
    have hU : untils f = [] := by rw [untils, if_neg HW.out]
    exact ⟨_, rfl, by rw [hU]; exact World.ownsRow_nil _ _ _ _, hb, by simp [hU]⟩
end Go.Proofs.YtamhjgkigjpbhaaDoor

/- Layer 28 (cover): which untils a cover does not leave owing, in plain Lean; the walk of Meets. -/
namespace Go.Proofs.YtamhjgkigjpbhaaDoor
open Go.RowKit

def metB (now : List Int) (a : Int) : Bool := !(now.any (a == ·)) || now.any (a - 1 == ·)
def meetsS (now : List Int) (p : Nat × Nat) (a : Int) : Nat × Nat := (p.1 + 1, if (decide (p.1 < 64) && metB now a) = true then p.2 ||| 2 ^ p.1 else p.2)
def meetsA (now l : List Int) : Nat × Nat := l.foldl (meetsS now) (0, 0)
/-- The document's Meets. -/
def meetsN (f : List Nd) (now : List Int) : Nat := if isN f = true then (meetsA now (utl 0 f)).2 else 0
theorem snoc_ind {α : Type} {P : List α → Prop} (h0 : P []) (h1 : ∀ l a, P l → P (l ++ [a])) (l : List α) : P l := by
  have : ∀ m : List α, P m.reverse := fun m => by
    induction m with
    | nil => exact h0
    | cons a m ih => rw [List.reverse_cons]; exact h1 _ _ ih
  simpa using this l.reverse
theorem meetsA_snoc (now l : List Int) (a : Int) : meetsA now (l ++ [a]) = meetsS now (meetsA now l) a := by simp [meetsA]
theorem meetsA_len (now : List Int) : ∀ l, (meetsA now l).1 = l.length := by
  refine snoc_ind rfl (fun l a ih => ?_)
  rw [meetsA_snoc, meetsS, ih]; simp
theorem meetsA_yes {now l : List Int} {a : Int} (hl : l.length < 64) (h : metB now a = true) : (meetsA now (l ++ [a])).2 = (meetsA now l).2 ||| 2 ^ l.length := by
  rw [meetsA_snoc, meetsS, meetsA_len]; simp [hl, h]
theorem meetsA_far {now l : List Int} {a : Int} (hl : 64 ≤ l.length) : (meetsA now (l ++ [a])).2 = (meetsA now l).2 := by
  rw [meetsA_snoc, meetsS, meetsA_len]; simp; omega
theorem meetsA_no {now l : List Int} {a : Int} (h : metB now a = false) : (meetsA now (l ++ [a])).2 = (meetsA now l).2 := by
  rw [meetsA_snoc, meetsS, meetsA_len]; simp [h]
theorem utl_mem {a : Int} : ∀ {f : List Nd} {i : Nat}, a ∈ utl i f → ∃ (j : Nat) (h : j < f.length), a = ((i + j : Nat) : Int) ∧ f[j].op = 9
  | [], i, h => by simp [utl] at h
  | x :: r, i, h => by
    have key : ∀ (h : a ∈ utl (i + 1) r), ∃ (j : Nat) (h : j < (x :: r).length), a = ((i + j : Nat) : Int) ∧ (x :: r)[j].op = 9 := fun h => by
      obtain ⟨j, hj, e, h9⟩ := utl_mem h
      exact ⟨j + 1, by simp; omega, by rw [e]; congr 1; omega, by simpa using h9⟩
    unfold utl at h
    split at h
    · next h9 =>
      rcases List.mem_cons.1 h with e | h
      · exact ⟨0, by simp, by rw [e]; simp, by simpa using h9⟩
      · exact key h
    · exact key h
theorem wrap_pow64 {j : Nat} (hj : j < 64) : IntKind.u64.wrap (2 ^ j) = ((2 ^ j : Nat) : Int) := by
  have hp : 2 ^ j ≤ 2 ^ 63 := Nat.pow_le_pow_right (by omega) (by omega)
  have e2 : (2 : Int) ^ j = ((2 ^ j : Nat) : Int) := by simp
  rw [IntKind.wrap_u64, e2]
  generalize 2 ^ j = c at hp ⊢
  omega

def U64P (w : World) (n : Nat) (en : Ending) (w' : World) : Prop := en = .returned (.int .u64 (n : Int)) ∧ Below w.heap.size w w'

set_option maxHeartbeats 4000000 in
set_option maxRecDepth 100000 in
theorem meets_any (A : Option Addr) (c : Nat) (f : List Nd) (need ban : Int) (v2 : Value) (A4 : Option Addr) (n4 c4 : Nat) (now : List Int) (w : World) (B : Nat) (hf : Sl w B 2 A f.length c (ncells f)) (h4 : Sl w B 1 A4 n4 c4 (icells now)) (hn : n4 = now.length) (hB : B ≤ w.heap.size) (hl : f.length ≤ 1000000) (hl4 : n4 ≤ 1000000) :
    Calls Tryd.prog 59 #[.slice A f.length c, .agg #[.int .u64 need, .int .u64 ban, v2, .slice A4 n4 c4]] w (U64P w (meetsN f now)) := by
  have hb0 : Below w.heap.size w (w.alloc (.cells #[.int .u64 need, .int .u64 ban, v2, .slice A4 n4 c4] 57)) := (Below.refl _ _).alloc (Nat.le_refl _) _
  have hx0 := heap_alloc_new w (.cells #[.int .u64 need, .int .u64 ban, v2, .slice A4 n4 c4] 57)
  have hxz : (w.alloc (.cells #[.int .u64 need, .int .u64 ban, v2, .slice A4 n4 c4] 57)).heap.size = w.heap.size + 1 := by simp
  obtain ⟨W0, hW0⟩ : ∃ W0, w.alloc (.cells #[.int .u64 need, .int .u64 ban, v2, .slice A4 n4 c4] 57) = W0 := ⟨_, rfl⟩
  rw [hW0] at hb0 hx0 hxz
  have HW0 := Lib.hid hW0
  clear hW0
  have HI := Lib.hid (Is_any A c f W0 B (hf.below hb0 hB) (Nat.le_trans hB hb0.size) hl)
  have hcf := hf.cap
  have hc4 := h4.cap
  cases hN : isN f
  · have HM : Hid (meetsN f now = 0) := Lib.hid (by unfold meetsN; rw [hN]; rfl)
    rw [hN] at HI
    clear hN hf h4 hn
    go_enter Tryd.func59, Tryd.ntmps59
    go_wp2_with fail
    rw [HW0.out]
    go_wp2_with fail
    refine Calls.mono HI.out ?_
    rintro e w1 ⟨rfl, hb1⟩
    have hb01 := hb0.trans (hb1.mono (by omega))
    go_wp2
    go_ret
    exact ⟨by rw [HM.out]; rfl, hb01⟩
  · have hw0 := isN_good hN
    have HM : Hid (meetsN f now = (meetsA now (untils f)).2) := Lib.hid (by unfold meetsN untils; rw [if_pos hN, if_pos hw0])
    have HKids := Lib.hid (fun (at_ : Int) (w' : World) (hb : Below w.heap.size w w') (h : -9223372036854775808 ≤ at_ ∧ at_ ≤ 9223372036854775807) => Kids_any A c f at_ w' B (hf.below hb hB) (Nat.le_trans hB hb.size) (by omega) h)
    have HCon := Lib.hid (fun (z : Int) (w' : World) (hb : Below w.heap.size w w') => contains_any A4 n4 c4 now z w' B hn (h4.below hb hB) (Nat.le_trans hB hb.size) (by omega))
    have HUn := Lib.hid (fun (w' : World) (hb : Below w.heap.size w w') => Untils_any A c f w' B (hf.below hb hB) (Nat.le_trans hB hb.size) (by omega))
    have HAt : Hid (∀ a ∈ untils f, ∃ l : Int, 0 ≤ a ∧ a < f.length ∧ kids f a = (l, a - 1)) := Lib.hid (by
      intro a ha
      unfold untils at ha
      rw [if_pos hw0] at ha
      obtain ⟨j, hj, e, h9⟩ := utl_mem ha
      have e' : a = (j : Int) := by rw [e]; congr 1; omega
      refine ⟨(spans f)[j - 1]?.getD 0 - 1, by omega, by omega, ?_⟩
      rw [e', kids_at hw0 hj, h9]; rfl)
    have hul : (untils f).length ≤ f.length := by
      unfold untils
      rw [if_pos hw0]
      exact utl_len f 0
    rw [hN] at HI
    generalize untils f = us at *
    generalize meetsN f now = mm at *
    clear hN hw0 hf h4 hn
    go_enter Tryd.func59, Tryd.ntmps59
    go_wp2_with fail
    rw [HW0.out]
    go_wp2_with fail
    refine Calls.mono HI.out ?_
    rintro e w1 ⟨rfl, hb1⟩
    have hb01 := hb0.trans (hb1.mono (by omega))
    have hU := Lib.hid (HUn.out w1 hb01)
    go_wp2_with fail
    refine Calls.mono hU.out ?_
    rintro e w2 ⟨v, rfl, hown, hb2, hnil⟩
    obtain ⟨AU, cU, rfl, hsU⟩ := own_sl hown
    have hb02 := hb01.trans (hb2.mono hb01.size)
    have hx2 := (hb2.block w.heap.size (by have := hb1.size; omega)).trans ((hb1.block w.heap.size (by omega)).trans hx0)
    clear hU HUn hown hnil hb01 HI hx0 hb1 hb0 hb2
    have hz2 := hb02.size
    have hzz := heap_lt hx2
    have hcu := hsU.cap
    go_wp2_with fail
    go_loopw [5, 16] (fun u i wr => ∃ k : Nat, k ≤ us.length ∧ i = .int .i64 k ∧ Below w2.heap.size w2 wr ∧ ∃ q : Nat, u = .int .u64 q ∧ q < 18446744073709551616 ∧ Hid (q = (meetsA now (us.take k)).2)) (fun _ i _ => us.length - (intOf i).toNat)
    case atStart => exact ⟨0, by omega, rfl, Below.refl _ _, 0, rfl, by omega, rfl⟩
    case round =>
      obtain ⟨k, hk, rfl, hbr, q, rfl, hq, HQ⟩ := hrel
      have hsw := hbr.size
      by_cases hlt : k < us.length
      · have hsn := take_snoc us k hlt
        have hlk : (us.take k).length = k := by rw [List.length_take, Nat.min_eq_left hk]
        obtain ⟨bb, o, rfl, hbb, hc0⟩ := (hsU.rd.below hbr (Nat.le_refl _)).at_ (icells_at' hlt)
        obtain ⟨lft, ha0, ha1, hkd⟩ := HAt.out us[k] (List.getElem_mem hlt)
        generalize hx : us[k] = a at *
        have HSN := Lib.hid hsn
        have hb0r : Below w.heap.size w wr := hb02.trans (hbr.mono hz2)
        have HKk := Lib.hid (HKids.out a wr hb0r ⟨by omega, by omega⟩)
        rw [hkd] at HKk
        have hxr := (hbr.block w.heap.size (by omega)).trans hx2
        clear hx hsn hkd
        have wk : IntKind.i64.wrap ((k : Int) + 1) = k + 1 := by rw [IntKind.wrap_i64]; omega
        go_wp2_with fail
        refine Calls.mono HKk.out ?_
        rintro e w3 ⟨rfl, hb3⟩
        have hbr3 : Below w2.heap.size w2 w3 := hbr.trans (hb3.mono hsw)
        have hb03 : Below w.heap.size w w3 := hb0r.trans (hb3.mono hb0r.size)
        have hx3 := (hb3.block w.heap.size (by omega)).trans hxr
        have g3 : w3.cell? ⟨w.heap.size, 3, none⟩ = some (.slice A4 n4 c4) := by rw [cell_of_row _ _ 3 _ _ (0, 0) hx3]; rfl
        by_cases h64 : k < 64
        · have d64 : decide ((k : Int) < 64) = true := by simp; omega
          have HSH : IntKind.u64.wrap (2 ^ k) = ((2 ^ k : Nat) : Int) := wrap_pow64 h64
          have hpk : 2 ^ k < 18446744073709551616 := by have : 2 ^ k ≤ 2 ^ 63 := Nat.pow_le_pow_right (by omega) (by omega); omega
          have hor := or_u64 (x := q) (y := 2 ^ k) (by omega) (by omega)
          have hqn : q ||| 2 ^ k < 18446744073709551616 := Nat.or_lt_two_pow (n := 64) (by omega) (by omega)
          have HY : Hid (metB now a = true → q ||| 2 ^ k = (meetsA now (us.take (k + 1))).2) := Lib.hid (fun h => by
            rw [HSN.out, meetsA_yes (by omega) h, hlk, HQ.out])
          have HNo : Hid (metB now a = false → q = (meetsA now (us.take (k + 1))).2) := Lib.hid (fun h => by
            rw [HSN.out, meetsA_no h, HQ.out])
          generalize 2 ^ k = pk at *
          generalize hqq : q ||| pk = qq at *
          have HC1 := Lib.hid (HCon.out a w3 hb03)
          clear hlk hqq
          cases hB1 : now.any (a == ·)
          · rw [hB1] at HC1
            have HB1 := Lib.hid hB1
            clear hB1
            go_wp2_with fail
            refine Calls.mono HC1.out ?_
            rintro e w4 ⟨rfl, hb4⟩
            go_wp2_with fail
            go_roundw
            case rel => exact ⟨k + 1, by omega, by go_num, hbr3.trans (hb4.mono hbr3.size), qq, rfl, hqn, HY.out (by unfold metB; rw [HB1.out]; rfl)⟩
            case measure => simp [intOf]; omega
          · rw [hB1] at HC1
            have HB1 := Lib.hid hB1
            clear hB1
            go_wp2_with fail
            refine Calls.mono HC1.out ?_
            rintro e w4 ⟨rfl, hb4⟩
            have hbr4 := hbr3.trans (hb4.mono hbr3.size)
            have hb04 := hb03.trans (hb4.mono hb03.size)
            have g4 := (hb4.cell (p := ⟨w.heap.size, 3, none⟩) (by show w.heap.size < w3.heap.size; have := hbr3.size; omega)).trans g3
            have HC2 := Lib.hid (HCon.out (a - 1) w4 hb04)
            clear g3
            cases hB2 : now.any (a - 1 == ·)
            · rw [hB2] at HC2
              have HB2 := Lib.hid hB2
              clear hB2
              go_wp2_with fail
              refine Calls.mono HC2.out ?_
              rintro e w5 ⟨rfl, hb5⟩
              go_wp2_with fail
              go_roundw
              case rel => exact ⟨k + 1, by omega, by go_num, hbr4.trans (hb5.mono hbr4.size), q, rfl, hq, HNo.out (by unfold metB; rw [HB1.out, HB2.out]; rfl)⟩
              case measure => simp [intOf]; omega
            · rw [hB2] at HC2
              have HB2 := Lib.hid hB2
              clear hB2
              go_wp2_with fail
              refine Calls.mono HC2.out ?_
              rintro e w5 ⟨rfl, hb5⟩
              go_wp2_with fail
              go_roundw
              case rel => exact ⟨k + 1, by omega, by go_num, hbr4.trans (hb5.mono hbr4.size), qq, rfl, hqn, HY.out (by unfold metB; rw [HB1.out, HB2.out]; rfl)⟩
              case measure => simp [intOf]; omega
        · have d64 : decide ((k : Int) < 64) = false := by simp; omega
          have HN : Hid (q = (meetsA now (us.take (k + 1))).2) := Lib.hid (by rw [HSN.out, meetsA_far (by omega), HQ.out])
          clear hlk
          go_wp2_with fail
          go_roundw
          case rel => exact ⟨k + 1, by omega, by go_num, hbr3, q, rfl, hq, HN.out⟩
          case measure => simp [intOf]; omega
      · have hkl : k = us.length := by omega
        subst hkl
        rw [List.take_of_length_le (Nat.le_refl _)] at HQ
        go_wp2
        go_ret
        exact ⟨by rw [HM.out, ← HQ.out]; rfl, hb02.trans (hbr.mono hz2)⟩
end Go.Proofs.YtamhjgkigjpbhaaDoor
