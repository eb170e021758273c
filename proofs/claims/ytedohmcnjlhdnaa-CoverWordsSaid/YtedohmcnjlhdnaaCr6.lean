/- The walk of layer 28's reference: Of. -/
import Derived.Test.YtedohmcnjlhdnaaCr4
import Derived.Test.YtedohmcnjlhdnaaCv9
namespace Go.Proofs.Ytedohmcnjlhdnaa
open Go.RowKit

theorem onL_inj {l m : List Bool} (hl : l.length = m.length) (h : onL l = onL m) : l = m := by
  refine List.ext_getElem hl (fun i h1 h2 => ?_)
  have e : (i ∈ onL l ↔ i ∈ onL m) := by rw [h]
  rw [onL_mem, onL_mem] at e
  simp only [List.getD_eq_getElem?_getD, List.getElem?_eq_getElem h1, List.getElem?_eq_getElem h2, Option.getD_some] at e
  cases h3 : l[i] <;> cases h4 : m[i] <;> simp_all
theorem natI_inj {l m : List Nat} (h : natI l = natI m) : l = m := by
  have : (natI l).map Int.toNat = (natI m).map Int.toNat := by rw [h]
  simpa [natI, List.map_map, Function.comp_def] using this
theorem onL_none (n : Nat) : onL (List.replicate n false) = [] := by
  refine List.eq_nil_iff_forall_not_mem.2 (fun i h => ?_)
  rw [onL_mem, List.getD_eq_getElem?_getD, List.getElem?_replicate] at h
  split at h <;> simp at h
/-- Covers of n nodes each. -/
def CovN (n : Nat) (c : Cov) : Prop := c.2.2.1.length = n ∧ c.2.2.2.length = n
theorem cov_same {n : Nat} {o c : Cov} (ho : CovN n o) (hc : CovN n c) : decide ((o.1 : Int) = (c.1 : Int) ∧ (o.2.1 : Int) = (c.2.1 : Int) ∧ natI (onL o.2.2.1) = natI (onL c.2.2.1) ∧ natI (onL o.2.2.2) = natI (onL c.2.2.2)) = decide (o = c) := by
  rw [Bool.eq_iff_iff, decide_eq_true_eq, decide_eq_true_eq]
  constructor
  · rintro ⟨h1, h2, h3, h4⟩
    obtain ⟨a, b, x, y⟩ := o
    obtain ⟨a', b', x', y'⟩ := c
    have e1 := onL_inj (ho.1.trans hc.1.symm) (natI_inj h3)
    have e2 := onL_inj (ho.2.trans hc.2.symm) (natI_inj h4)
    simp only at h1 h2 e1 e2
    rw [show a = a' by omega, show b = b' by omega, e1, e2]
  · rintro rfl; exact ⟨rfl, rfl, rfl, rfl⟩
theorem leaves_ok {f : List Nd} (hk : KidsOk f) (n : Nat) {w : Way} (hw : WOk f w) : ∀ y ∈ leaves f n w, WOk f y :=
  way_ind hk (fun _ y => WOk f y) (fun _ h _ => h) (fun _ _ _ _ _ _ _ _ _ h => h) n w hw
theorem leaves_covN {f : List Nd} (hk : KidsOk f) (n : Nat) {w : Way} (hw : WOk f w) : ∀ c ∈ (leaves f n w).map Way.cov, CovN f.length c := fun c hc => by
  obtain ⟨y, hy, rfl⟩ := List.mem_map.1 hc
  have := leaves_ok hk n hw y hy
  exact ⟨this.next, this.now⟩
theorem addCR_mem {out : List Cov} {c d : Cov} (h : d ∈ addC out c) : d ∈ out ∨ d = c := by
  unfold addC at h
  split at h
  · exact .inl h
  · rcases List.mem_append.1 h with h | h
    · exact .inl h
    · exact .inr (by simpa using h)
theorem onceC_sub (l : List Cov) : ∀ out : List Cov, ∀ d ∈ onceC l out, d ∈ out ∨ d ∈ l := by
  induction l with
  | nil => intro out d h; exact .inl h
  | cons c l ih =>
    intro out d h
    rcases ih (addC out c) d h with h | h
    · rcases addCR_mem h with h | rfl
      · exact .inl h
      · exact .inr (by simp)
    · exact .inr (by simp [h])
theorem onceC_snoc (l : List Cov) (k : Nat) (hk : k < l.length) : onceC (l.take (k + 1)) [] = addC (onceC (l.take k) []) l[k] := by
  unfold onceC; rw [take_snoc l k hk, List.foldl_append]; rfl
theorem onceCR_len (l : List Cov) : ∀ out : List Cov, (onceC l out).length ≤ out.length + l.length := by
  induction l with
  | nil => intro out; simp [onceC]
  | cons c l ih =>
    intro out
    have h := ih (addC out c)
    have : (addC out c).length ≤ out.length + 1 := by unfold addC; split <;> simp
    show (onceC l (addC out c)).length ≤ _
    simp only [List.length_cons]; omega
theorem mem_snoc (l : List Cov) (k : Nat) (hk : k < l.length) (c : Cov) : decide (c ∈ l.take (k + 1)) = (decide (c ∈ l.take k) || decide (l[k] = c)) := by
  rw [take_snoc l k hk, Bool.eq_iff_iff]
  simp only [List.mem_append, List.mem_singleton, decide_eq_true_eq, Bool.or_eq_true]
  exact ⟨fun h => h.imp id Eq.symm, fun h => h.imp id Eq.symm⟩
/-- A cover, read. -/
theorem rd_cov {w : World} {B : Nat} {A : Option Addr} {xs : List Value} {T : List Cov} (h : Rd w B A xs) (hc : CovsAt w xs T) {k : Nat} {c : Cov} (hk : T[k]? = some c) :
    ∃ b off A1 c1 A2 c2, A = some ⟨b, off, none⟩ ∧ b < B ∧ w.cell? ⟨b, off + k * 4, none⟩ = some (.int .u64 (c.1 : Int)) ∧ w.cell? ⟨b, off + k * 4 + 1, none⟩ = some (.int .u64 (c.2.1 : Int)) ∧
      w.cell? ⟨b, off + k * 4 + 2, none⟩ = some (.slice A1 (onL c.2.2.1).length c1) ∧ w.cell? ⟨b, off + k * 4 + 3, none⟩ = some (.slice A2 (onL c.2.2.2).length c2) ∧
      TSl w 3 A1 (onL c.2.2.1).length c1 (icells (natI (onL c.2.2.1))) ∧ TSl w 3 A2 (onL c.2.2.2).length c2 (icells (natI (onL c.2.2.2))) := by
  obtain ⟨A1, c1, A2, c2, e0, e1, e2, e3, t1, t2⟩ := hc k c hk
  rcases h with h0 | ⟨b, off, hA, hlt, hcell⟩
  · rw [h0] at e0; simp at e0
  · exact ⟨b, off, A1, c1, A2, c2, hA, hlt, hcell _ _ e0, by rw [Nat.add_assoc]; exact hcell _ _ e1, by rw [Nat.add_assoc]; exact hcell _ _ e2, by rw [Nat.add_assoc]; exact hcell _ _ e3, t1, t2⟩
theorem spares_own {w : World} {base n t : Nat} {u : Value} {xs : List Value} {e size : Nat} (h1 : w.ownsRow base e size u n xs) (hne : e ≠ t) : Spares (fun k => u.ownBlock = some k) w t := by
  intro k cs hk he
  rcases h1.2 with ⟨rfl, _⟩ | ⟨g, cap, cur, rfl, _, hg, _⟩
  · cases he
  · simp only [Value.ownBlock, Option.some.injEq] at he
    subst he
    rw [hg] at hk
    injection hk with hk
    injection hk with _ hk
    exact hne hk
set_option maxHeartbeats 8000000 in
set_option maxRecDepth 100000 in
theorem ofR_any (A : Option Addr) (c : Nat) (f : List Nd) (Ap : Option Addr) (np cp : Nat) (ps : List Int) (w : World) (hf : Sl w w.heap.size 2 A f.length c (ncells f)) (hp : Sl w w.heap.size 1 Ap np cp (icells ps)) (hnp : np = ps.length) (hl : f.length ≤ 1000) (hpl : np ≤ 100000)
    (hlv : goodB f ps = true → (leaves f (f.length + 1) (startW f.length (ps.map Int.toNat))).length ≤ 1000000) :
    Calls Try.prog 29 #[.slice A f.length c, .slice Ap np cp] w (WaysPost w (askedL f ps)) := by
  subst hnp
  have hcf := hf.cap
  have hcp := hp.cap
  have HF := Lib.hid hf
  have HP := Lib.hid hp
  have HLV := Lib.hid hlv
  have HI := Lib.hid (fun (w' : World) (hb : Below w.heap.size w w') => IsR_any A c f w' w.heap.size (hf.below hb (Nat.le_refl _)) hb.size (by omega))
  have HBg := Lib.hid (Begins_any A c f w w.heap.size hf (Nat.le_refl _) (by omega))
  have HAK : Hid (askedL f ps = if goodB f ps = true then coversL f (ps.map Int.toNat) else []) := Lib.hid rfl
  have HGB : Hid (goodB f ps = (isN f && decide (f.length ≤ 50) && ps.all (partB f.length))) := Lib.hid rfl
  clear hf hp hlv
  go_enter Try.func29, Try.ntmps29
  go_wp2_with fail
  refine Calls.mono HBg.out ?_
  rintro e w1 ⟨vb, rfl, hbo, hb1, -⟩
  obtain ⟨Ab, cb, rfl, hsb⟩ := own_sl hbo
  have HI1 := Lib.hid (HI.out w1 hb1)
  have hz1 := hb1.size
  have HSB := Lib.hid hsb
  clear hbo hsb HI HBg
  cases hN : isN f
  · rw [hN] at HI1
    have HA : Hid (askedL f ps = []) := Lib.hid (by rw [HAK.out, HGB.out, hN]; rfl)
    clear hN
    go_wp2_with fail
    refine Calls.mono HI1.out ?_
    rintro e w2 ⟨rfl, hb2⟩
    go_wp2_with fail
    go_ret
    rw [HA.out]
    exact ways_none (hb1.trans (hb2.mono hz1))
  · rw [hN] at HI1
    have HN := Lib.hid hN
    clear hN
    by_cases h50 : 50 < f.length
    · have HA : Hid (askedL f ps = []) := Lib.hid (by rw [HAK.out, HGB.out, show decide (f.length ≤ 50) = false by simpa using h50]; simp)
      have d50 : decide ((50 : Int) < (f.length : Int)) = true := by simp; omega
      clear h50
      go_wp2_with fail
      refine Calls.mono HI1.out ?_
      rintro e w2 ⟨rfl, hb2⟩
      go_wp2_with fail
      go_ret
      rw [HA.out]
      exact ways_none (hb1.trans (hb2.mono hz1))
    · have d50 : decide ((50 : Int) < (f.length : Int)) = false := by simp; omega
      go_wp2_with fail
      refine Calls.mono HI1.out ?_
      rintro e w2 ⟨rfl, hb2⟩
      have hb02 := hb1.trans (hb2.mono hz1)
      have hz2 := hb02.size
      have HSB2 := Lib.hid (HSB.out.below hb2 (Nat.le_refl _))
      have hz12 := hb2.size
      clear HI1 HSB hb1 hb2
      go_wp2_with fail
      go_loopw [7] (fun i wr => ∃ k : Nat, k ≤ ps.length ∧ i = .int .i64 k ∧ Below w2.heap.size w2 wr ∧ Hid ((ps.take k).all (partB f.length) = true)) (fun i _ => ps.length - (intOf i).toNat)
      case atStart => exact ⟨0, by omega, rfl, Below.refl _ _, rfl⟩
      case round =>
        obtain ⟨k, hk, rfl, hbr, HALL⟩ := hrel
        have hsw := hbr.size
        have hb0r := hb02.trans (hbr.mono hz2)
        by_cases hlt : k < ps.length
        · obtain ⟨bb, o, rfl, hbb, hc0⟩ := HP.out.rd.at_ (icells_at' hlt)
          have hc1 := (hb0r.cell (p := ⟨bb, o + k, none⟩) hbb).trans hc0
          have hsn := all_take' hlt HALL.out
          have hno : partB f.length ps[k] = false → ps.all (partB f.length) = false := fun h => by
            rw [Bool.eq_false_iff]
            intro ha
            have := List.all_eq_true.1 ha ps[k] (List.getElem_mem hlt)
            rw [h] at this; cases this
          generalize ps[k] = z at *
          have HSN := Lib.hid hsn
          have HNO := Lib.hid hno
          have wk : IntKind.i64.wrap ((k : Int) + 1) = k + 1 := by rw [IntKind.wrap_i64]; omega
          clear hsn hno hc0
          by_cases hz0 : z < 0
          · have dz : decide (z < 0) = true := by simpa using hz0
            have HPB : Hid (partB f.length z = false) := Lib.hid (by unfold partB; simp; omega)
            have HA : Hid (askedL f ps = []) := Lib.hid (by rw [HAK.out, HGB.out, HNO.out HPB.out]; simp)
            clear hz0
            go_wp2_with fail
            go_ret
            rw [HA.out]
            exact ways_none hb0r
          · have dz : decide (z < 0) = false := by simpa using hz0
            by_cases hz9 : z < (f.length : Int)
            · have d9 : decide ((f.length : Int) ≤ z) = false := by simpa using hz9
              have HPB : Hid (partB f.length z = true) := Lib.hid (by unfold partB; simp; omega)
              clear hz0 hz9
              go_wp2_with fail
              go_roundw
              case rel => exact ⟨k + 1, by omega, by go_num, hbr, by show _ = _; rw [HSN.out]; exact HPB.out⟩
              case measure => simp [intOf]; omega
            · have d9 : decide ((f.length : Int) ≤ z) = true := by simp; omega
              have HPB : Hid (partB f.length z = false) := Lib.hid (by unfold partB; simp; omega)
              have HA : Hid (askedL f ps = []) := Lib.hid (by rw [HAK.out, HGB.out, HNO.out HPB.out]; simp)
              clear hz0 hz9
              go_wp2_with fail
              go_ret
              rw [HA.out]
              exact ways_none hb0r
        · have hkl : k = ps.length := by omega
          subst hkl
          rw [List.take_of_length_le (Nat.le_refl _)] at HALL
          have hall := HALL.out
          have HA : Hid (askedL f ps = coversL f (ps.map Int.toNat)) := Lib.hid (by rw [HAK.out, HGB.out, HN.out, hall, show decide (f.length ≤ 50) = true by simp; omega]; rfl)
          have hgd : goodB f ps = true := by rw [HGB.out, HN.out, hall, show decide (f.length ≤ 50) = true by simp; omega]; rfl
          have hps : natI (ps.map Int.toNat) = ps := by
            unfold natI
            rw [List.map_map]
            refine (List.map_congr_left (fun z hz => ?_)).trans (List.map_id ps)
            have := List.all_eq_true.1 hall z hz
            simp [partB] at this
            simp; omega
          have hok : WOk f (startW f.length (ps.map Int.toNat)) := startW_ok (fun j hj => by
            obtain ⟨z, hz, rfl⟩ := List.mem_map.1 hj
            have := List.all_eq_true.1 hall z hz
            simp [partB] at this
            omega)
          have hrc : RC f (f.length + 1) (startW f.length (ps.map Int.toNat)) := ⟨hok, by show 0 < 256; omega, by show 0 < 256; omega, by show 0 &&& 0 = 0; decide, startW_cnt _ _, by show (ps.map Int.toNat).length + 2 * (f.length + 1) ≤ 1000000; rw [List.length_map]; omega, (HLV.out hgd)⟩
          have hN0 : onL (startW f.length (ps.map Int.toNat)).next = [] := onL_none _
          have hN1 : onL (startW f.length (ps.map Int.toNat)).now = [] := onL_none _
          have hrr : RR wr (startW f.length (ps.map Int.toNat)) none 0 none 0 Ap cp := by
            refine ⟨?_, ?_, ?_⟩
            · rw [hN0]; exact ⟨Sl.none_ _ _ _, fun a h => by cases h⟩
            · rw [hN1]; exact ⟨Sl.none_ _ _ _, fun a h => by cases h⟩
            · show Sl wr wr.heap.size 1 Ap (ps.map Int.toNat).length cp (icells (natI (ps.map Int.toNat)))
              rw [hps, List.length_map]; exact (HP.out.below hb0r (Nat.le_refl _)).up hb0r.size
          have HWA := Lib.hid (ways_any f A c Ab (spans f).length cb HN.out (by omega) rfl w2.heap.size (f.length + 1) (startW f.length (ps.map Int.toNat)) 0 0 none 0 0 none 0 0 Ap ps.length cp wr (((HF.out.below hb02 (Nat.le_refl _)).up hz2).below hbr (Nat.le_refl _)) ((HSB2.out.up hz12).below hbr (Nat.le_refl _)) hsw hrr hrc rfl rfl (by rw [hN0]; rfl) (by rw [hN1]; rfl) (by show ps.length = (ps.map Int.toNat).length; rw [List.length_map]))
          have hcn := leaves_covN (kidsOk_of HN.out) (f.length + 1) hok
          have hT0 : ((leaves f (f.length + 1) (startW f.length (ps.map Int.toNat))).map Way.cov).length ≤ 1000000 := by rw [List.length_map]; exact (HLV.out hgd)
          have HCO : Hid (coversL f (ps.map Int.toNat) = onceC ((leaves f (f.length + 1) (startW f.length (ps.map Int.toNat))).map Way.cov) []) := Lib.hid rfl
          generalize (leaves f (f.length + 1) (startW f.length (ps.map Int.toNat))).map Way.cov = T0 at *
          have HCN := Lib.hid hcn
          have HBR := Lib.hid hb0r
          clear hall hgd hps hok hrc hN0 hN1 hrr hcn hb0r hbr hlt HALL
          go_wp2_with fail
          refine Calls.mono HWA.out ?_
          rintro e w5 ⟨v5, xs5, rfl, ho5, hcv5, hb5⟩
          obtain ⟨A5, c5, rfl, hs5⟩ := own_sl ho5
          have hb05 := HBR.out.trans (hb5.mono HBR.out.size)
          have hz5 := hb05.size
          have hcap5 := hs5.cap
          clear HWA ho5 hb5 HBR
          have HS5 := Lib.hid hs5
          have HC5 := Lib.hid hcv5
          clear hs5 hcv5
          go_wp2_with fail
          go_loopw [9, 10] (fun u i wr => ∃ (k : Nat) (xs : List Value) (outs : List Cov), k ≤ T0.length ∧ i = .int .i64 k ∧ outs.length ≤ k ∧ Hid (outs = onceC (T0.take k) []) ∧ wr.ownsRow w5.heap.size 47 4 u outs.length xs ∧ CovsAt wr xs outs ∧ Below w5.heap.size w5 wr) (fun _ i _ => T0.length - (intOf i).toNat)
          case atStart => exact ⟨0, [], [], by omega, rfl, by simp, rfl, World.ownsRow_nil _ _ _ _, CovsAt.nil _, Below.refl _ _⟩
          case round =>
            obtain ⟨k, xs, outs, hk, rfl, hol, HO, hown, hcv, hbr⟩ := hrel
            have hsr := hbr.size
            by_cases hlt : k < T0.length
            · obtain ⟨A0, c0, rfl, hso⟩ := own_sl hown
              have hco := hso.cap
              have hs5r := HS5.out.below hbr (Nat.le_refl _)
              have hc5r := HC5.out.keep (Tch.of_below hbr) (spares_new _ _)
              obtain ⟨b5, o5, D1, d1, D2, d2, rfl, hb5l, q0, q1, q2, q3, tn1, tn2⟩ := rd_cov hs5r.rd hc5r (List.getElem?_eq_getElem hlt)
              have hcn := HCN.out T0[k] (List.getElem_mem hlt)
              have hos : ∀ d ∈ outs, CovN f.length d := fun d hd => by
                rw [HO.out] at hd
                rcases onceC_sub _ _ d hd with h | h
                · cases h
                · exact HCN.out d (List.mem_of_mem_take h)
              have hsn := onceC_snoc T0 k hlt
              rw [← HO.out] at hsn
              have htl1 : (onL T0[k].2.2.1).length ≤ 1000 := Nat.le_trans (onL_len _) (by rw [hcn.1]; omega)
              have htl2 : (onL T0[k].2.2.2).length ≤ 1000 := Nat.le_trans (onL_len _) (by rw [hcn.2]; omega)
              generalize T0[k] = t at *
              replace hb5l : b5 < wr.heap.size := by omega
              have HSN := Lib.hid hsn
              have HCT := Lib.hid hcn
              have HOS := Lib.hid hos
              have HSO := Lib.hid hso
              have HCV := Lib.hid hcv
              have HOW := Lib.hid hown
              have HT1 := Lib.hid tn1
              have HT2 := Lib.hid tn2
              have HBRR := Lib.hid hbr
              have hk1 := tn1.sl.cap
              have hk2 := tn2.sl.cap
              have wk : IntKind.i64.wrap ((k : Int) + 1) = k + 1 := by rw [IntKind.wrap_i64]; omega
              have HQ : Hid (wr.cell? ⟨b5, o5 + k * 4, none⟩ = some (.int .u64 (t.1 : Int)) ∧ wr.cell? ⟨b5, o5 + k * 4 + 1, none⟩ = some (.int .u64 (t.2.1 : Int)) ∧ wr.cell? ⟨b5, o5 + k * 4 + 2, none⟩ = some (.slice D1 (onL t.2.2.1).length d1) ∧ wr.cell? ⟨b5, o5 + k * 4 + 3, none⟩ = some (.slice D2 (onL t.2.2.2).length d2)) := Lib.hid ⟨q0, q1, q2, q3⟩
              clear hsn hcn hos hso hcv hown tn1 tn2 hs5r hc5r q0 q1 q2 q3 hbr HSB2
              go_wp2_with fail
              obtain ⟨Wb, hWb⟩ : ∃ Wb, wr = Wb := ⟨_, rfl⟩
              rw [hWb] at HSO HCV HOW HT1 HT2 HBRR HQ hb5l hsr
              rw [hWb]
              clear hWb
              go_loopw [11, 12] (fun ag j wr => ∃ (i : Nat) (q : Bool), i ≤ outs.length ∧ j = .int .i64 i ∧ ag = .bool q ∧ Hid (q = decide (t ∈ outs.take i)) ∧ Below Wb.heap.size Wb wr) (fun _ j _ => outs.length - (intOf j).toNat)
              case atStart => exact ⟨0, false, by omega, rfl, rfl, by simp [Hid], Below.refl _ _⟩
              case round =>
                obtain ⟨i, q, hi, rfl, rfl, HQI, hbi⟩ := hrel
                have hsi := hbi.size
                by_cases hil : i < outs.length
                · obtain ⟨b0, o0, E1, e1, E2, e2, hA0, hb0l, p0, p1, p2, p3, tm1, tm2⟩ := rd_cov (HSO.out.below hbi (Nat.le_refl _)).rd (HCV.out.keep (Tch.of_below hbi) (spares_new _ _)) (List.getElem?_eq_getElem hil)
                  obtain ⟨q0, q1, q2, q3⟩ := HQ.out
                  replace q0 := (hbi.cell (p := ⟨b5, o5 + k * 4, none⟩) hb5l).trans q0
                  replace q1 := (hbi.cell (p := ⟨b5, o5 + k * 4 + 1, none⟩) hb5l).trans q1
                  replace q2 := (hbi.cell (p := ⟨b5, o5 + k * 4 + 2, none⟩) hb5l).trans q2
                  replace q3 := (hbi.cell (p := ⟨b5, o5 + k * 4 + 3, none⟩) hb5l).trans q3
                  have hoi := HOS.out outs[i] (List.getElem_mem hil)
                  have hsn := mem_snoc outs i hil t
                  rw [← HQI.out] at hsn
                  have hle1 : (onL outs[i].2.2.1).length ≤ 1000 := Nat.le_trans (onL_len _) (by rw [hoi.1]; omega)
                  have hle2 : (onL outs[i].2.2.2).length ≤ 1000 := Nat.le_trans (onL_len _) (by rw [hoi.2]; omega)
                  have hsame := cov_same hoi HCT.out
                  generalize outs[i] = x at *
                  have HSM := Lib.hid hsame
                  have HSN2 := Lib.hid hsn
                  have wi : IntKind.i64.wrap ((i : Int) + 1) = i + 1 := by rw [IntKind.wrap_i64]; omega
                  subst hA0
                  clear hsame hsn hoi
                  cases q
                  · have hbd : Below wr.heap.size wr wr.drew := Below.drew (Below.refl _ _)
                    obtain ⟨wd, hwd⟩ : ∃ wd, wr.drew = wd := ⟨_, rfl⟩
                    rw [hwd] at hbd
                    have HWD := Lib.hid hwd
                    have hbd5 : Below Wb.heap.size Wb wd := hbi.trans (hbd.mono hsi)
                    have hSm := sameR_any (x.1 : Int) (x.2.1 : Int) (t.1 : Int) (t.2.1 : Int) E1 E2 D1 D2 (onL x.2.2.1).length (onL x.2.2.2).length (onL t.2.2.1).length (onL t.2.2.2).length e1 e2 d1 d2 (natI (onL x.2.2.1)) (natI (onL x.2.2.2)) (natI (onL t.2.2.1)) (natI (onL t.2.2.2)) wd wr.heap.size (tm1.sl.below hbd (Nat.le_refl _)) (tm2.sl.below hbd (Nat.le_refl _)) ((HT1.out.below hbi).sl.below hbd (Nat.le_refl _)) ((HT2.out.below hbi).sl.below hbd (Nat.le_refl _)) hbd.size (by simp [natI]) (by simp [natI]) (by simp [natI]) (by simp [natI]) (by omega) (by omega)
                    rw [HSM.out] at hSm
                    have HSame := Lib.hid hSm
                    generalize decide (x = t) = same at *
                    clear hwd hSm tm1 tm2 HSM
                    go_wp2_with fail
                    refine wp_region_held_drew (S := fun w' => w'.cell? ⟨b0, o0 + i * 4, none⟩ = some (.int .u64 (x.1 : Int)) ∧ w'.cell? ⟨b0, o0 + i * 4 + 1, none⟩ = some (.int .u64 (x.2.1 : Int)) ∧ w'.cell? ⟨b0, o0 + i * 4 + 2, none⟩ = some (.slice E1 (onL x.2.2.1).length e1) ∧ w'.cell? ⟨b0, o0 + i * 4 + 3, none⟩ = some (.slice E2 (onL x.2.2.2).length e2) ∧ w'.cell? ⟨b5, o5 + k * 4, none⟩ = some (.int .u64 (t.1 : Int)) ∧ w'.cell? ⟨b5, o5 + k * 4 + 1, none⟩ = some (.int .u64 (t.2.1 : Int)) ∧ w'.cell? ⟨b5, o5 + k * 4 + 2, none⟩ = some (.slice D1 (onL t.2.2.1).length d1) ∧ w'.cell? ⟨b5, o5 + k * 4 + 3, none⟩ = some (.slice D2 (onL t.2.2.2).length d2)) (by kernel_rfl) ⟨p0, p1, p2, p3, q0, q1, q2, q3⟩ (fun hS => ?_)
                    refine wpAnyH_takeD (i := 0) (v := ?_) rfl (by kernel_rfl) (by kernel_rfl) (by kernel_rfl) (fun _ _ _ h => h) (Or.inl ⟨by kernel_rfl, ?_⟩) hS ?_
                    rotate_left 1
                    · (intro w' hSw; (try dsimp only at hSw); go_simp; try (with_reducible rfl))
                    try simp only [Act.put, List.setIfInBounds_toArray, List.set_cons_zero, List.set_cons_succ]
                    refine wpAnyH_takeD (i := 1) (v := ?_) rfl (by kernel_rfl) (by kernel_rfl) (by kernel_rfl) (fun _ _ _ h => h) (Or.inl ⟨by kernel_rfl, ?_⟩) hS ?_
                    rotate_left 1
                    · (intro w' hSw; (try dsimp only at hSw); go_simp; try (with_reducible rfl))
                    try simp only [Act.put, List.setIfInBounds_toArray, List.set_cons_zero, List.set_cons_succ]
                    refine wpAnyH_takeD (i := 2) (v := ?_) rfl (by kernel_rfl) (by kernel_rfl) (by kernel_rfl) (fun _ _ _ h => h) (Or.inl ⟨by kernel_rfl, ?_⟩) hS ?_
                    rotate_left 1
                    · (intro w' hSw; (try dsimp only at hSw); go_simp; try (with_reducible rfl))
                    try simp only [Act.put, List.setIfInBounds_toArray, List.set_cons_zero, List.set_cons_succ]
                    refine wpAnyH_takeD (i := 3) (v := ?_) rfl (by kernel_rfl) (by kernel_rfl) (by kernel_rfl) (fun _ _ _ h => h) (Or.inl ⟨by kernel_rfl, ?_⟩) hS ?_
                    rotate_left 1
                    · (intro w' hSw; (try dsimp only at hSw); go_simp; try (with_reducible rfl))
                    try simp only [Act.put, List.setIfInBounds_toArray, List.set_cons_zero, List.set_cons_succ]
                    refine wpAnyH_takeD (i := 4) (v := ?_) rfl (by kernel_rfl) (by kernel_rfl) (by kernel_rfl) (fun _ _ _ h => h) (Or.inl ⟨by kernel_rfl, ?_⟩) hS ?_
                    rotate_left 1
                    · (intro w' hSw; (try dsimp only at hSw); go_simp; try (with_reducible rfl))
                    try simp only [Act.put, List.setIfInBounds_toArray, List.set_cons_zero, List.set_cons_succ]
                    refine wpAnyH_takeD (i := 5) (v := ?_) rfl (by kernel_rfl) (by kernel_rfl) (by kernel_rfl) (fun _ _ _ h => h) (Or.inl ⟨by kernel_rfl, ?_⟩) hS ?_
                    rotate_left 1
                    · (intro w' hSw; (try dsimp only at hSw); go_simp; try (with_reducible rfl))
                    try simp only [Act.put, List.setIfInBounds_toArray, List.set_cons_zero, List.set_cons_succ]
                    refine wpAnyH_takeD (i := 6) (v := ?_) rfl (by kernel_rfl) (by kernel_rfl) (by kernel_rfl) (fun _ _ _ h => h) (Or.inl ⟨by kernel_rfl, ?_⟩) hS ?_
                    rotate_left 1
                    · (intro w' hSw; (try dsimp only at hSw); go_simp; try (with_reducible rfl))
                    try simp only [Act.put, List.setIfInBounds_toArray, List.set_cons_zero, List.set_cons_succ]
                    refine wpAnyH_takeD (i := 7) (v := ?_) rfl (by kernel_rfl) (by kernel_rfl) (by kernel_rfl) (fun _ _ _ h => h) (Or.inl ⟨by kernel_rfl, ?_⟩) hS ?_
                    rotate_left 1
                    · (intro w' hSw; (try dsimp only at hSw); go_simp; try (with_reducible rfl))
                    try simp only [Act.put, List.setIfInBounds_toArray, List.set_cons_zero, List.set_cons_succ]
                    refine wpAnyH_takeD (i := 8) (v := ?_) rfl (by kernel_rfl) (by kernel_rfl) (by kernel_rfl) (fun _ _ _ h => h) (Or.inl ⟨by kernel_rfl, ?_⟩) hS ?_
                    rotate_left 1
                    · (intro w' hSw; (try dsimp only at hSw); go_simp; try (with_reducible rfl))
                    try simp only [Act.put, List.setIfInBounds_toArray, List.set_cons_zero, List.set_cons_succ]
                    refine wpAnyH_takeD (i := 9) (v := ?_) rfl (by kernel_rfl) (by kernel_rfl) (by kernel_rfl) (fun _ _ _ h => h) (Or.inl ⟨by kernel_rfl, ?_⟩) hS ?_
                    rotate_left 1
                    · (intro w' hSw; (try dsimp only at hSw); go_simp; try (with_reducible rfl))
                    try simp only [Act.put, List.setIfInBounds_toArray, List.set_cons_zero, List.set_cons_succ]
                    refine wpAnyH_oneD (i := 10) rfl (by kernel_rfl) (fun K hK => ?_)
                    rw [if_pos (by kernel_rfl)]
                    go_simp
                    rw [HWD.out]
                    refine Calls.mono HSame.out ?_
                    rintro e wx ⟨rfl, hbx'⟩
                    have hbx : Below wr.heap.size wr wx := hbd.trans (hbx'.mono hbd.size)
                    clear hbx'
                    dsimp only
                    refine hK.out _ _ ⟨(hbx.cell (p := ⟨b0, o0 + i * 4, none⟩) (show b0 < wr.heap.size by omega)).trans p0, (hbx.cell (p := ⟨b0, o0 + i * 4 + 1, none⟩) (show b0 < wr.heap.size by omega)).trans p1, (hbx.cell (p := ⟨b0, o0 + i * 4 + 2, none⟩) (show b0 < wr.heap.size by omega)).trans p2, (hbx.cell (p := ⟨b0, o0 + i * 4 + 3, none⟩) (show b0 < wr.heap.size by omega)).trans p3, (hbx.cell (p := ⟨b5, o5 + k * 4, none⟩) (show b5 < wr.heap.size by omega)).trans q0, (hbx.cell (p := ⟨b5, o5 + k * 4 + 1, none⟩) (show b5 < wr.heap.size by omega)).trans q1, (hbx.cell (p := ⟨b5, o5 + k * 4 + 2, none⟩) (show b5 < wr.heap.size by omega)).trans q2, (hbx.cell (p := ⟨b5, o5 + k * 4 + 3, none⟩) (show b5 < wr.heap.size by omega)).trans q3⟩ (fun hS => ?_)
                    clear hK
                    try simp only [Act.put, List.setIfInBounds_toArray, List.set_cons_zero, List.set_cons_succ]
                    refine wpAnyH_takeD (i := 11) (v := ?_) rfl (by kernel_rfl) (by kernel_rfl) (by kernel_rfl) (fun _ _ _ h => h) (Or.inl ⟨by kernel_rfl, ?_⟩) hS ?_
                    rotate_left 1
                    · (intro w' hSw; (try dsimp only at hSw); go_simp; try (with_reducible rfl))
                    try simp only [Act.put, List.setIfInBounds_toArray, List.set_cons_zero, List.set_cons_succ]
                    refine wpAnyH_takeD (i := 12) (v := ?_) rfl (by kernel_rfl) (by kernel_rfl) (by kernel_rfl) (fun _ _ _ h => h) (Or.inl ⟨by kernel_rfl, ?_⟩) hS ?_
                    rotate_left 1
                    · (intro w' hSw; (try dsimp only at hSw); go_simp; try (with_reducible rfl))
                    try simp only [Act.put, List.setIfInBounds_toArray, List.set_cons_zero, List.set_cons_succ]
                    refine wpAnyH_done (by kernel_rfl) ?_ _
                    go_wp2_with fail
                    go_roundw
                    case rel => exact ⟨i + 1, same, by omega, by go_num, rfl, by show _ = _; rw [HSN2.out]; rfl, hbi.trans (hbx.mono hsi)⟩
                    case measure => simp [intOf]; omega
                  · have hbd : Below wr.heap.size wr wr.drew := Below.drew (Below.refl _ _)
                    clear HSM tm1 tm2
                    go_wp2_with fail
                    refine wp_region_held_drew (S := fun w' => w'.cell? ⟨b0, o0 + i * 4, none⟩ = some (.int .u64 (x.1 : Int)) ∧ w'.cell? ⟨b0, o0 + i * 4 + 1, none⟩ = some (.int .u64 (x.2.1 : Int)) ∧ w'.cell? ⟨b0, o0 + i * 4 + 2, none⟩ = some (.slice E1 (onL x.2.2.1).length e1) ∧ w'.cell? ⟨b0, o0 + i * 4 + 3, none⟩ = some (.slice E2 (onL x.2.2.2).length e2) ∧ w'.cell? ⟨b5, o5 + k * 4, none⟩ = some (.int .u64 (t.1 : Int)) ∧ w'.cell? ⟨b5, o5 + k * 4 + 1, none⟩ = some (.int .u64 (t.2.1 : Int)) ∧ w'.cell? ⟨b5, o5 + k * 4 + 2, none⟩ = some (.slice D1 (onL t.2.2.1).length d1) ∧ w'.cell? ⟨b5, o5 + k * 4 + 3, none⟩ = some (.slice D2 (onL t.2.2.2).length d2)) (by kernel_rfl) ⟨p0, p1, p2, p3, q0, q1, q2, q3⟩ (fun hS => ?_)
                    refine wpAnyH_takeD (i := 0) (v := ?_) rfl (by kernel_rfl) (by kernel_rfl) (by kernel_rfl) (fun _ _ _ h => h) (Or.inl ⟨by kernel_rfl, ?_⟩) hS ?_
                    rotate_left 1
                    · (intro w' hSw; (try dsimp only at hSw); go_simp; try (with_reducible rfl))
                    try simp only [Act.put, List.setIfInBounds_toArray, List.set_cons_zero, List.set_cons_succ]
                    refine wpAnyH_takeD (i := 1) (v := ?_) rfl (by kernel_rfl) (by kernel_rfl) (by kernel_rfl) (fun _ _ _ h => h) (Or.inl ⟨by kernel_rfl, ?_⟩) hS ?_
                    rotate_left 1
                    · (intro w' hSw; (try dsimp only at hSw); go_simp; try (with_reducible rfl))
                    try simp only [Act.put, List.setIfInBounds_toArray, List.set_cons_zero, List.set_cons_succ]
                    refine wpAnyH_takeD (i := 2) (v := undef) rfl (by kernel_rfl) (by kernel_rfl) (by kernel_rfl) (fun _ _ _ h => h) (Or.inr ⟨by kernel_rfl, rfl⟩) hS ?_
                    try simp only [Act.put, List.setIfInBounds_toArray, List.set_cons_zero, List.set_cons_succ]
                    refine wpAnyH_takeD (i := 3) (v := undef) rfl (by kernel_rfl) (by kernel_rfl) (by kernel_rfl) (fun _ _ _ h => h) (Or.inr ⟨by kernel_rfl, rfl⟩) hS ?_
                    try simp only [Act.put, List.setIfInBounds_toArray, List.set_cons_zero, List.set_cons_succ]
                    refine wpAnyH_takeD (i := 4) (v := undef) rfl (by kernel_rfl) (by kernel_rfl) (by kernel_rfl) (fun _ _ _ h => h) (Or.inr ⟨by kernel_rfl, rfl⟩) hS ?_
                    try simp only [Act.put, List.setIfInBounds_toArray, List.set_cons_zero, List.set_cons_succ]
                    refine wpAnyH_takeD (i := 5) (v := undef) rfl (by kernel_rfl) (by kernel_rfl) (by kernel_rfl) (fun _ _ _ h => h) (Or.inr ⟨by kernel_rfl, rfl⟩) hS ?_
                    try simp only [Act.put, List.setIfInBounds_toArray, List.set_cons_zero, List.set_cons_succ]
                    refine wpAnyH_takeD (i := 6) (v := undef) rfl (by kernel_rfl) (by kernel_rfl) (by kernel_rfl) (fun _ _ _ h => h) (Or.inr ⟨by kernel_rfl, rfl⟩) hS ?_
                    try simp only [Act.put, List.setIfInBounds_toArray, List.set_cons_zero, List.set_cons_succ]
                    refine wpAnyH_takeD (i := 7) (v := undef) rfl (by kernel_rfl) (by kernel_rfl) (by kernel_rfl) (fun _ _ _ h => h) (Or.inr ⟨by kernel_rfl, rfl⟩) hS ?_
                    try simp only [Act.put, List.setIfInBounds_toArray, List.set_cons_zero, List.set_cons_succ]
                    refine wpAnyH_takeD (i := 8) (v := undef) rfl (by kernel_rfl) (by kernel_rfl) (by kernel_rfl) (fun _ _ _ h => h) (Or.inr ⟨by kernel_rfl, rfl⟩) hS ?_
                    try simp only [Act.put, List.setIfInBounds_toArray, List.set_cons_zero, List.set_cons_succ]
                    refine wpAnyH_takeD (i := 9) (v := undef) rfl (by kernel_rfl) (by kernel_rfl) (by kernel_rfl) (fun _ _ _ h => h) (Or.inr ⟨by kernel_rfl, rfl⟩) hS ?_
                    try simp only [Act.put, List.setIfInBounds_toArray, List.set_cons_zero, List.set_cons_succ]
                    refine wpAnyH_takeD (i := 10) (v := undef) rfl (by kernel_rfl) (by kernel_rfl) (by kernel_rfl) (fun _ _ _ h => h) (Or.inr ⟨by kernel_rfl, rfl⟩) hS ?_
                    try simp only [Act.put, List.setIfInBounds_toArray, List.set_cons_zero, List.set_cons_succ]
                    refine wpAnyH_takeD (i := 11) (v := ?_) rfl (by kernel_rfl) (by kernel_rfl) (by kernel_rfl) (fun _ _ _ h => h) (Or.inl ⟨by kernel_rfl, ?_⟩) hS ?_
                    rotate_left 1
                    · (intro w' hSw; (try dsimp only at hSw); go_simp; try (with_reducible rfl))
                    try simp only [Act.put, List.setIfInBounds_toArray, List.set_cons_zero, List.set_cons_succ]
                    refine wpAnyH_takeD (i := 12) (v := ?_) rfl (by kernel_rfl) (by kernel_rfl) (by kernel_rfl) (fun _ _ _ h => h) (Or.inl ⟨by kernel_rfl, ?_⟩) hS ?_
                    rotate_left 1
                    · (intro w' hSw; (try dsimp only at hSw); go_simp; try (with_reducible rfl))
                    try simp only [Act.put, List.setIfInBounds_toArray, List.set_cons_zero, List.set_cons_succ]
                    refine wpAnyH_done (by kernel_rfl) ?_ _
                    go_wp2_with fail
                    go_roundw
                    case rel => exact ⟨i + 1, true, by omega, by go_num, rfl, by show _ = _; rw [HSN2.out]; rfl, hbi.trans (hbd.mono hsi)⟩
                    case measure => simp [intOf]; omega
                · have hil2 : i = outs.length := by omega
                  subst hil2
                  rw [List.take_of_length_le (Nat.le_refl _)] at HQI
                  have hbr5 := HBRR.out.trans (hbi.mono hsr)
                  have hown2 := own_below HOW.out hbi
                  have hcv2 := HCV.out.keep (Tch.of_below hbi) (spares_new _ _)
                  cases q
                  · have hst : addC outs t = outs ++ [t] := by
                      unfold addC; rw [if_neg (by simpa using HQI.out.symm)]
                    have HST := Lib.hid hst
                    obtain ⟨q0, q1, q2, q3⟩ := HQ.out
                    replace q0 := (hbi.cell (p := ⟨b5, o5 + k * 4, none⟩) hb5l).trans q0
                    replace q1 := (hbi.cell (p := ⟨b5, o5 + k * 4 + 1, none⟩) hb5l).trans q1
                    replace q2 := (hbi.cell (p := ⟨b5, o5 + k * 4 + 2, none⟩) hb5l).trans q2
                    replace q3 := (hbi.cell (p := ⟨b5, o5 + k * 4 + 3, none⟩) hb5l).trans q3
                    have htu1 := HT1.out.below hbi
                    have htu2 := HT2.out.below hbi
                    have HTU1 := Lib.hid htu1
                    have HTU2 := Lib.hid htu2
                    have HOW2 := Lib.hid hown2
                    have HCV2 := Lib.hid hcv2
                    have hbr5z := hbr5.size
                    clear hst htu1 htu2 hown2 hcv2
                    go_wp2_with (at_builtin
                                 refine wpList_push rfl (.tmp 77) (.tmp 82) 42 rfl w5.heap.size 47 4 64 sliceCovR _ _ _ (HOW2.out.alloc _) rfl wr.heap.size #[.int .u64 (t.1 : Int), .int .u64 (t.2.1 : Int), .slice D1 (onL t.2.2.1).length d1, .slice D2 (onL t.2.2.2).length d2] rfl (heap_alloc_new wr _) rfl (by intro u hu; simp at hu; rcases hu with rfl | rfl | rfl | rfl <;> rfl) (by omega) (by omega) (by simp; omega) ?_
                                 intro v9 w9 hown9 ht9 hat9 hne9)
                    go_roundw
                    case rel =>
                      have hba : Below wr.heap.size wr (wr.alloc (.cells #[.int .u64 (t.1 : Int), .int .u64 (t.2.1 : Int), .slice D1 (onL t.2.2.1).length d1, .slice D2 (onL t.2.2.2).length d2] 47)) := (Below.refl _ _).alloc (Nat.le_refl _) _
                      have hsp := spares_own (HOW2.out.alloc (.cells #[.int .u64 (t.1 : Int), .int .u64 (t.2.1 : Int), .slice D1 (onL t.2.2.1).length d1, .slice D2 (onL t.2.2.2).length d2] 47)) (t := 3) (by decide)
                      refine ⟨k + 1, xs ++ [.int .u64 (t.1 : Int), .int .u64 (t.2.1 : Int), .slice D1 (onL t.2.2.1).length d1, .slice D2 (onL t.2.2.2).length d2], outs ++ [t], by omega, by go_num, by simp; omega, by show _ = _; rw [HSN.out, HST.out], ?_, ?_, ?_⟩
                      · rw [show (outs ++ [t]).length = outs.length + 1 by simp]; exact hown9
                      · exact (HCV2.out.keep (Tch.of_below hba) (spares_new _ _)).keep ht9 hsp |>.push HOW2.out.1 t (((HTU1.out.below hba).keep ht9 hsp)) (((HTU2.out.below hba).keep ht9 hsp))
                      · exact (hbr5.alloc hbr5z _).trans (ht9.below (by simp; omega) (fun g hg h => by have := (HOW2.out.lt g h).1; omega))
                    case measure => simp [intOf]; omega
                  · have hst : addC outs t = outs := by
                      unfold addC; rw [if_pos (by simpa using HQI.out.symm)]
                    have HST := Lib.hid hst
                    clear hst
                    go_wp2_with fail
                    go_roundw
                    case rel => exact ⟨k + 1, xs, outs, by omega, by go_num, by omega, by show _ = _; rw [HSN.out, HST.out], hown2, hcv2, hbr5⟩
                    case measure => simp [intOf]; omega
            · have hkl : k = T0.length := by omega
              subst hkl
              rw [List.take_of_length_le (Nat.le_refl _)] at HO
              go_wp2_with fail
              go_ret
              rw [HA.out, HCO.out, ← HO.out]
              exact ⟨_, xs, rfl, own_base hown hz5, hcv, hb05.trans (hbr.mono hz5)⟩
end Go.Proofs.Ytedohmcnjlhdnaa
