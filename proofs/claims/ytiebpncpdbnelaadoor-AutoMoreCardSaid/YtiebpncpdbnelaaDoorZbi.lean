/- Texts that stand one behind the other, in one file. -/
import Derived.Test.YtiebpncpdbnelaaDoorAu6
set_option maxHeartbeats 2000000
set_option maxRecDepth 100000
namespace Go.Proofs.YtiebpncpdbnelaaDoor
open Go.RowKit
noncomputable def startsB (I : List Int) (E : List (List Nd)) (ins : List Nat) (s : Nat) : Bool := I.any (fun x => (lastR E ins s).getD x.toNat false)
theorem open_nd {a : Aut} (hA : a.Ok) : ∀ r ∈ openE a, ∀ e ∈ r, isNd (openE a).length e.op = true := by
 intro r hr e he
 rw [openE_len]
 obtain ⟨q, hq, rfl⟩ := List.mem_map.1 hr
 obtain ⟨t, ht, rfl⟩ := List.mem_map.1 he
 exact hA.2 _ (at_mem (List.mem_range.1 hq)) t (List.mem_filter.1 ht).1
theorem open_row {a : Aut} {K : Nat} (hK : ∀ x ∈ a.nodes, x.to.length ≤ K) : ∀ r ∈ openE a, r.length ≤ K := by
 intro r hr
 obtain ⟨q, hq, rfl⟩ := List.mem_map.1 hr
 unfold openR
 rw [List.length_map]
 exact Nat.le_trans (List.length_filter_le _ _) (hK _ (at_mem (List.mem_range.1 hq)))
theorem along_at {m n L : Nat} (h : m < L * n) : m / n < L ∧ m % n < n := by
 have hn : 0 < n := by
  rcases Nat.eq_zero_or_pos n with e | e
  ·subst e; omega
  ·exact e
 exact ⟨(Nat.div_lt_iff_lt_mul hn).2 h, Nat.mod_lt _ hn⟩
theorem along_nd {a : Aut} (hA : a.Ok) {W : List Nat} {lp : Nat} (hlp : lp < W.length) : ∀ r ∈ alongE a W lp, ∀ e ∈ r, isNd (alongE a W lp).length e.op = true := by
 intro r hr e he
 rw [alongE_len]
 obtain ⟨m, hm, rfl⟩ := List.mem_map.1 hr
 obtain ⟨h1, h2⟩ := along_at (List.mem_range.1 hm)
 obtain ⟨t, ht, rfl⟩ := List.mem_map.1 he
 obtain ⟨k, rfl, hk⟩ := hA.to h2 (List.mem_filter.1 ht).1
 have hx : nx lp W.length (m / a.nodes.length) < W.length := nx_lt hlp
 have h3 : nx lp W.length (m / a.nodes.length) * a.nodes.length + k < W.length * a.nodes.length := by
  have : (nx lp W.length (m / a.nodes.length) + 1) * a.nodes.length ≤ W.length * a.nodes.length := Nat.mul_le_mul_right _ hx
  rw [Nat.succ_mul] at this
  omega
 refine isNd_iff.2 ⟨?_, ?_⟩
 ·show (0 : Int) ≤ ((nx lp W.length (m / a.nodes.length) : Nat) : Int) * (a.nodes.length : Int) + (k : Int)
  rw [← Int.natCast_mul]; omega
 ·show ((nx lp W.length (m / a.nodes.length) : Nat) : Int) * (a.nodes.length : Int) + (k : Int) < _
  rw [← Int.natCast_mul]; omega
theorem along_row {a : Aut} {W : List Nat} {lp K : Nat} (hK : ∀ x ∈ a.nodes, x.to.length ≤ K) : ∀ r ∈ alongE a W lp, r.length ≤ K := by
 intro r hr
 obtain ⟨m, hm, rfl⟩ := List.mem_map.1 hr
 obtain ⟨_, h2⟩ := along_at (List.mem_range.1 hm)
 unfold alongR
 rw [List.length_map]
 exact Nat.le_trans (List.length_filter_le _ _) (hK _ (at_mem h2))
theorem alongN_at {a : Aut} {M m : Nat} (h : m < M) : (alongN a M).getD m 0 = (a.at (m % a.nodes.length)).inn := by simp [alongN, List.getD, h]
theorem alongN_len' (a : Aut) (M : Nat) : (alongN a M).length = M := by simp [alongN]
theorem starts_acc {a : Aut} (hA : a.Ok) {W : List Nat} {lp : Nat} (hlp : lp < W.length) : startsB (alongI a W) (alongE a W lp) (alongN a (W.length * a.nodes.length)) a.sets.toNat = accB a W lp := by
 rw [Bool.eq_iff_iff, accB_iff, ← along_acc hA hlp]
 unfold startsB
 rw [List.any_eq_true]
 have hlen := alongE_len a W lp
 have hin : ∀ q, q < a.nodes.length → q < W.length * a.nodes.length := fun q hq => by
  have : 1 * a.nodes.length ≤ W.length * a.nodes.length := Nat.mul_le_mul_right _ (by omega)
  omega
 have key : ∀ q, q < a.nodes.length → ((lastR (alongE a W lp) (alongN a (W.length * a.nodes.length)) a.sets.toNat).getD q false = true ↔ Runs (alongE a W lp) (asksD a (fun m => m % a.nodes.length)) q) := by
  intro q hq
  rw [last_iff (by rw [hlen]; exact hin q hq)]
  constructor
  ·refine Runs.congr (fun p hp => ?_)
   rcases List.mem_cons.1 hp with rfl | hp
   ·exact ⟨_, List.mem_cons_self .., fun _ _ => rfl⟩
   ·obtain ⟨i, hi, rfl⟩ := List.mem_map.1 hp
    exact ⟨_, List.mem_cons_of_mem _ (List.mem_map.2 ⟨i, hi, rfl⟩), fun k hk => by
     rw [hlen] at hk
     show ((alongN a (W.length * a.nodes.length)).getD k 0).testBit i = _
     rw [alongN_at hk]⟩
  ·refine Runs.congr (fun p hp => ?_)
   rcases List.mem_cons.1 hp with rfl | hp
   ·exact ⟨_, List.mem_cons_self .., fun _ _ => rfl⟩
   ·obtain ⟨i, hi, rfl⟩ := List.mem_map.1 hp
    exact ⟨_, List.mem_cons_of_mem _ (List.mem_map.2 ⟨i, hi, rfl⟩), fun k hk => by
     rw [hlen] at hk
     show _ = ((alongN a (W.length * a.nodes.length)).getD k 0).testBit i
     rw [alongN_at hk]⟩
 constructor
 ·rintro ⟨x, hx, hl⟩
  obtain ⟨h1, h2⟩ := List.mem_filter.1 hx
  obtain ⟨q, rfl, hq⟩ := hA.first h1
  rw [tN] at hl h2
  exact ⟨q, h1, h2, (key q hq).1 hl⟩
 ·rintro ⟨q, h1, h2, h3⟩
  obtain ⟨q', e, hq⟩ := hA.first h1
  have : q = q' := by omega
  subst this
  exact ⟨(q : Int), List.mem_filter.2 ⟨h1, by rw [tN]; exact h2⟩, by rw [tN]; exact (key q hq).2 h3⟩
theorem starts_open {a : Aut} (hA : a.Ok) : startsB (openI a) (openE a) (insA a) a.sets.toNat = !decide ((trimA a).init = []) := by
 rw [Bool.eq_iff_iff, Bool.not_eq_true', decide_eq_false_iff_not]
 refine Iff.trans ?_ (trim_first hA).symm
 unfold startsB
 rw [List.any_eq_true]
 constructor
 ·rintro ⟨x, hx, hl⟩
  obtain ⟨q, rfl, hq⟩ := hA.first (List.mem_filter.1 hx).1
  rw [tN] at hl
  exact ⟨q, hx, (last_iff (by rw [openE_len]; exact hq)).1 hl⟩
 ·rintro ⟨q, hx, hr⟩
  obtain ⟨q', e, hq⟩ := hA.first (List.mem_filter.1 hx).1
  have : q = q' := by omega
  subst this
  exact ⟨(q : Int), hx, by rw [tN]; exact (last_iff (by rw [openE_len]; exact hq)).2 hr⟩
theorem starts1_any (x : Int) (b : Nat) (A : Option Addr) (n c : Nat) (l : List Bool) (w : World) (B : Nat) (h0 : w.cell? ⟨b, 0, none⟩ = some (.slice A n c)) (hs : Sl w B 1 A n c (bcells l)) (hx : isNd n x = true) :
  Calls Tryd.prog 83 #[.int .i64 x, .pointer (some ⟨b, 0, none⟩)] w (Tru w (l.getD x.toNat false)) := by
 obtain ⟨k, rfl, hk⟩ := isNd_nat hx
 have hn : n = l.length := by have := hs.len; rw [bcells_len] at this; omega
 have hbc : (bcells l)[k]? = some (.bool (l.getD k false)) := by simp [bcells, List.getD, show k < l.length by omega]
 obtain ⟨bb, o, rfl, hbb, hc⟩ := hs.rd.at_ hbc
 have hcap := hs.cap
 have hmax := hs.max
 unfold maxLen at hmax
 have hk0 : (0 : Int) ≤ (k : Int) := by omega
 have hk1 : (k : Int) < (n : Int) := by omega
 rw [tN]
 generalize l.getD k false = v at *
 clear hx hbc hs
 go_enter Tryd.func83, Tryd.ntmps83
 go_wp2_with fail
 go_ret
 exact ⟨rfl, bR⟩
theorem index_austa (b : Nat) (p : Int → Bool) (l : List Int) (A : Option Addr) (n c : Nat) (w : World) (B : Nat) (hs : Sl w B 1 A n c (icells l)) (hB : B ≤ w.1.size) (hn : n = l.length) (hl : n ≤ 100000000000)
  (HC : Hid (∀ (x : Int) (w' : World), x ∈ l → Below w.1.size w w' → Calls Tryd.prog 83 #[.int .i64 x, .pointer (some ⟨b, 0, none⟩)] w' (Tru w' (p x)))) :
  Calls Tryd.prog 78 #[.slice A n c, .func (.func 83) #[] #[.pointer (some ⟨b, 0, none⟩)]] w (Fnd w (l.any p)) := by
 subst hn
 go_enter Tryd.func78, Tryd.ntmps78
 go_wp2
 go_loopw [8] (fun i wr => ∃ k : Nat, k ≤ l.length ∧ i = .int .i64 k ∧ Below w.1.size w wr ∧ Hid ((l.take k).any p = false)) (fun i _ => l.length - (intOf i).toNat)
 case atStart => exact ⟨0, by omega, rfl, bR, rfl⟩
 case round =>
  obtain ⟨k, hk, rfl, hbr, HA⟩ := hrel
  have hsw := hbr.size
  by_cases hlt : k < l.length
  ·obtain ⟨bb, o, rfl, _, hc0⟩ := (hs.rd.below hbr hB).at_ (j := k) (icells_at hlt)
   have hC := HC.out l[k] wr (mM hlt) hbr
   have hmem := mM hlt
   have hsn : (l.take (k + 1)).any p = (p l[k]) := by rw [take_snoc l k hlt, List.any_append, HA.out]; simp
   obtain ⟨x, hx⟩ := xQ (l[k])
   rw [hx] at hc0
   rw [hx] at hC hsn hmem
   have HCC := dh hC
   have HS := dh hsn
   have HM := dh hmem
   clear hx hC hsn hmem
   cases hb : p x
   ·have HB := dh hb
    clear hb
    go_wp2_with fail
    refine Calls.mono HCC.out ?_
    rw [HB.out]
    rintro e w2 ⟨rfl, hb2⟩
    go_wp2
    go_roundw
    case rel => exact ⟨k + 1, by omega, by go_num, hbr.trans (hb2.mono hsw), by show _ = _; rw [HS.out]; exact HB.out⟩
    case measure => simp [intOf]; omega
   ·have HB := dh hb
    clear hb
    go_wp2_with fail
    refine Calls.mono HCC.out ?_
    rw [HB.out]
    rintro e w2 ⟨rfl, hb2⟩
    go_wp2
    go_ret
    exact ⟨_, rfl, by omega, by omega, hbr.trans (hb2.mono hsw), by rw [List.any_eq_true.2 ⟨x, HM.out, HB.out⟩]; simp⟩
  ·have hkl : k = l.length := by omega
   subst hkl
   rw [tL lR] at HA
   go_wp2
   go_ret
   exact ⟨_, rfl, by omega, by omega, hbr, by rw [HA.out]; rfl⟩
theorem contains_austa (b : Nat) (p : Int → Bool) (l : List Int) (A : Option Addr) (n c : Nat) (w : World) (B : Nat) (hs : Sl w B 1 A n c (icells l)) (hB : B ≤ w.1.size) (hn : n = l.length) (hl : n ≤ 100000000000)
  (HC : Hid (∀ (x : Int) (w' : World), x ∈ l → Below w.1.size w w' → Calls Tryd.prog 83 #[.int .i64 x, .pointer (some ⟨b, 0, none⟩)] w' (Tru w' (p x)))) :
  Calls Tryd.prog 50 #[.slice A n c, .func (.func 83) #[] #[.pointer (some ⟨b, 0, none⟩)]] w (Tru w (l.any p)) := by
 go_enter Tryd.func50, Tryd.ntmps50
 have hI := dh (index_austa b p l A n c w B hs hB hn hl HC)
 clear hn hs hl
 go_wp2_with fail
 refine Calls.mono hI.out ?_
 rintro e w1 ⟨k, rfl, _, _, hb, hk⟩
 go_wp2
 go_ret
 exact ⟨rfl, hb⟩
theorem starts_any (I : List Int) (E : List (List Nd)) (L ins : List Nat) (s : Nat) (ai : Option Addr) (ni ci : Nat) (ae : Option Addr) (ne ce : Nat) (al : Option Addr) (nl cl : Nat) (ac : Option Addr) (nc cc : Nat) (B : Nat) (w : World)
  (h : PlayRd w B ai ni ci ae ne ce al nl cl ac nc cc I E L ins) (hB : B ≤ w.1.size) (hEn : ∀ r ∈ E, ∀ e ∈ r, isNd E.length e.op = true) (hI : ∀ x ∈ I, isNd E.length x = true) (hN : ne ≤ 65536) (KE : Nat) (hr : ∀ r ∈ E, r.length ≤ KE) (hKE : ne * KE ≤ 1000000000) (hK2 : KE ≤ 1000000) (hil : ins.length = E.length) (h64 : ∀ x, ins.getD x 0 < 2 ^ 64) (hs : s ≤ 16)
  (hi : ni ≤ 1000000000) (hl : nl ≤ 17592186044416) :
  Calls Tryd.prog 56 #[.agg #[.slice ai ni ci, .slice ae ne ce, .slice al nl cl, .slice ac nc cc, .int .u64 (allB s : Int)]] w (Tru w (startsB I E ins s)) := by
 have hb0 : Below w.1.size w (w.alloc (.cells #[.slice ai ni ci, .slice ae ne ce, .slice al nl cl, .slice ac nc cc, .int .u64 (allB s : Int)] 74)) := bR.alloc lR _
 have x0 := heap_alloc_new w (.cells #[.slice ai ni ci, .slice ae ne ce, .slice al nl cl, .slice ac nc cc, .int .u64 (allB s : Int)] 74)
 have hz0 : (w.alloc (.cells #[.slice ai ni ci, .slice ae ne ce, .slice al nl cl, .slice ac nc cc, .int .u64 (allB s : Int)] 74)).1.size = w.1.size + 1 := by simp
 obtain ⟨W0, hW0⟩ := xQ (w.alloc (.cells #[.slice ai ni ci, .slice ae ne ce, .slice al nl cl, .slice ac nc cc, .int .u64 (allB s : Int)] 74))
 rw [hW0] at hb0 x0 hz0
 have HR0 := dh (h.below hb0 hB)
 have HL := dh (lasting_any I E L ins s ai ni ci ae ne ce al nl cl ac nc cc B W0 HR0.out (by omega) hEn hN KE hr hKE hK2 hil h64 hs hi hl)
 have HW0 := dh hW0
 have HNE := dh h.ene
 have HNI := dh h.eni
 have HB0 := dh hb0
 have HX0 := dh x0
 have HZ0 := dh hz0
 have HI := dh hI
 clear hW0 h hb0 x0 hz0 hEn hr hil h64 hI
 go_enter Tryd.func56, Tryd.ntmps56
 go_upto_region 1 with fail
 rw [HW0.out]
 have q0 : W0.cell? ⟨w.1.size, 0, none⟩ = some (.slice ai ni ci) := cR HX0.out
 have q1 : W0.cell? ⟨w.1.size, 1, none⟩ = some (.slice ae ne ce) := cR HX0.out
 have q2 : W0.cell? ⟨w.1.size, 2, none⟩ = some (.slice al nl cl) := cR HX0.out
 have q3 : W0.cell? ⟨w.1.size, 3, none⟩ = some (.slice ac nc cc) := cR HX0.out
 have q4 : W0.cell? ⟨w.1.size, 4, none⟩ = some (.int .u64 (allB s : Int)) := cR HX0.out
 go_wp2_with fail
 refine HL.out.mono ?_
 rintro e w1 ⟨v, rfl, hv, hb1, -⟩
 obtain ⟨A1, c1, rfl, hs1⟩ := own_sl hv
 have hz1 := hb1.size
 have HB1 := dh hb1
 have HS1 := dh hs1
 have hx1 : w1.1[w.1.size]? = some _ := (hb1.block w.1.size (by have := HZ0.out; omega)).trans HX0.out
 clear hb1 hv hs1 q0 q1 q2 q3 q4
 obtain ⟨wB, hwB⟩ := xQ (w1.alloc (.cells #[.slice A1 ne c1] 54))
 have HWB := dh hwB
 have hbB : Below w1.1.size w1 wB := by rw [← hwB]; exact bR.alloc lR _
 have hzB : wB.1.size = w1.1.size + 1 := by rw [← hwB]; simp
 have hcB : wB.cell? ⟨w1.1.size, 0, none⟩ = some (.slice A1 ne c1) := by rw [← hwB]; exact (Boxed.new w1 _ _).cell
 have hxB : wB.1[w.1.size]? = some _ := (hbB.block w.1.size (by have := HZ0.out; omega)).trans hx1
 have q0 : wB.cell? ⟨w.1.size, 0, none⟩ = some (.slice ai ni ci) := cR hxB
 have HSB := dh (HS1.out.below hbB lR)
 have HIB := dh ((((HR0.out.below HB1.out (by have := HZ0.out; omega)).below hbB (by have := HZ0.out; omega)).g.hi).up (show B ≤ wB.1.size by have := HZ0.out; omega))
 have HBW := dh ((HB0.out.trans (HB1.out.mono (by have := HZ0.out; omega))).trans (hbB.mono (show w.1.size ≤ w1.1.size by have := HZ0.out; omega)))
 have HC := dh (contains_austa w1.1.size (fun x => (lastR E ins s).getD x.toNat false) I ai ni ci wB wB.1.size HIB.out lR HNI.out (by omega) (dh (fun x w2 hx hb2 => starts1_any x w1.1.size A1 ne c1 (lastR E ins s) w2 w1.1.size (bC hb2 (by omega) hcB) (HSB.out.below hb2 (by omega)) (by rw [HNE.out]; exact HI.out x hx))))
 have HCB := dh hcB
 clear hwB hbB hcB hxB hx1
 go_upto_region 2 with fail
 rw [HWB.out]
 go_wp2_with fail
 refine HC.out.mono ?_
 rintro e w3 ⟨rfl, hb3⟩
 have HB3 := dh (HBW.out.trans (hb3.mono (show w.1.size ≤ wB.1.size by have := HZ0.out; omega)))
 clear hb3
 go_wp2_with fail
 go_ret
 exact ⟨rfl, HB3.out⟩
end Go.Proofs.YtiebpncpdbnelaaDoor
namespace Go.Proofs.YtiebpncpdbnelaaDoor
structure GoodA (a : Aut) : Prop where
 n256 : a.nodes.length ≤ 256
 sets : 0 ≤ a.sets ∧ a.sets ≤ 16
 ok : a.Ok
 inn : ∀ x ∈ a.nodes, x.inn < 2 ^ a.sets.toNat
theorem chkNds_zeroQ {N : Nat} {s : Int} : ∀ {l : List ANd}, chkNds N s l = 0 → ∀ x ∈ l, chkNd N s x = 0
 | [], _, x, hx => by cases hx
 | y :: r, h, x, hx => by
  unfold chkNds at h
  split at h
  ·rename_i hy
   rcases List.mem_cons.1 hx with rfl | hx
   ·exact hy
   ·exact chkNds_zeroQ h x hx
  ·rename_i hy
   exact absurd h hy
theorem chk_iff {a : Aut} : chkA a = 0 ↔ GoodA a := by
 constructor
 ·intro h
  unfold chkA at h
  by_cases h1 : 256 < a.nodes.length ∨ 16 < a.sets
  ·rw [if_pos h1] at h; omega
  ·rw [if_neg h1] at h
   by_cases h2 : a.sets < 0
   ·rw [if_pos h2] at h; omega
   ·rw [if_neg h2] at h
    by_cases h3 : a.init.all (isNd a.nodes.length) = true
    ·rw [if_pos h3] at h
     have hz := chkNds_zeroQ h
     have hx : ∀ x ∈ a.nodes, x.to.all (isNd a.nodes.length) = true ∧ x.inn >>> a.sets.toNat = 0 := fun x hx => by
      have := hz x hx
      unfold chkNd at this
      split at this
      ·rename_i h4
       split at this
       ·rename_i h5; exact ⟨h4, h5⟩
       ·omega
      ·omega
     refine ⟨by omega, by omega, ⟨fun i hi => List.all_eq_true.1 h3 i hi, fun x hx' t ht => List.all_eq_true.1 (hx x hx').1 t ht⟩, fun x hx' => ?_⟩
     have := (hx x hx').2
     rw [Nat.shiftRight_eq_div_pow] at this
     rcases Nat.div_eq_zero_iff.1 this with h | h
     ·have := Nat.two_pow_pos a.sets.toNat; omega
     ·exact h
    ·rw [if_neg h3] at h; omega
 ·intro h
  exact chkA_zero h.n256 h.sets h.ok h.inn
section
variable {a : Aut} {p : Nat → Bool} {F : List Int → List Int}
end
section
variable {a : Aut}
end
end Go.Proofs.YtiebpncpdbnelaaDoor
namespace Go.Proofs.YtiebpncpdbnelaaDoor
open Go.RowKit
theorem ins_lt {a : Aut} (h : ∀ x ∈ a.nodes, x.inn < 2 ^ 64) (q : Nat) : (insA a).getD q 0 < 2 ^ 64 := by
 rw [insA_at]
 unfold Aut.at
 rw [gD]
 cases hx : a.nodes[q]? with
 | none => simp [ANd.none]
 | some x => exact h x (List.mem_of_getElem? hx)
theorem alongN_lt {a : Aut} (h : ∀ x ∈ a.nodes, x.inn < 2 ^ 64) (M q : Nat) : (alongN a M).getD q 0 < 2 ^ 64 := by
 by_cases hq : q < M
 ·rw [alongN_at hq, ← insA_at]; exact ins_lt h _
 ·rw [gD, List.getElem?_eq_none (by rw [alongN_len']; omega)]
  simp
theorem insA_len (a : Aut) : (insA a).length = a.nodes.length := by simp [insA]
theorem alongI_nd {a : Aut} (hA : a.Ok) {W : List Nat} {lp : Nat} (hlp : lp < W.length) : ∀ x ∈ alongI a W, isNd (alongE a W lp).length x = true := by
 intro x hx
 obtain ⟨k, rfl, hk⟩ := hA.first (List.mem_filter.1 hx).1
 rw [alongE_len]
 have : 1 * a.nodes.length ≤ W.length * a.nodes.length := Nat.mul_le_mul_right _ (by omega)
 exact isNd_iff.2 ⟨by omega, by omega⟩
theorem openI_nd {a : Aut} (hA : a.Ok) : ∀ x ∈ openI a, isNd (openE a).length x = true := by
 intro x hx
 rw [openE_len]
 exact hA.1 x (List.mem_filter.1 hx).1
theorem takesP_any (a : Aut) (Ai : Option Addr) (ni ci : Nat) (An : Option Addr) (nn cn : Nat) (A1 A2 : Option Addr) (n1 c1 n2 c2 : Nat) (st lo : List Int) (W : List Nat) (w : World) (B : Nat) (h : AutRd w B a Ai ni ci An nn cn) (hw : WRd w B A1 A2 n1 c1 n2 c2 st lo) (hB : B ≤ w.1.size)
  (hnd : ∀ x ∈ a.nodes, x.need < 2 ^ 64 ∧ x.ban < 2 ^ 64) (hinn : ∀ x ∈ a.nodes, x.inn < 2 ^ 64) (KE : Nat) (hr : ∀ x ∈ a.nodes, x.to.length ≤ KE) (hri : a.init.length ≤ 100000000) (hl : n1 + n2 ≤ 60000) (hWl : n1 + n2 = W.length) (hat : 0 < n2 → ∀ k, k < W.length → atW st lo (k : Int) = ((W.getD k 0 : Nat) : Int)) (h64 : ∀ k, W.getD k 0 < 2 ^ 64)
  (hNE : W.length * nn ≤ 65536) (hKE : W.length * nn * KE ≤ 1000000000) (hK2 : KE ≤ 1000000) :
  Calls Tryd.prog 28 #[.agg #[.int .i64 a.sets, .slice Ai ni ci, .slice An nn cn], .agg #[.slice A1 n1 c1, .slice A2 n2 c2]] w (Tru w (decide (chkA a = 0) && decide (0 < n2) && accB a W n1)) := by
 obtain ⟨hb0, x0, y0, z0⟩ := two_new w (.cells #[.int .i64 a.sets, .slice Ai ni ci, .slice An nn cn] 25) (.cells #[.slice A1 n1 c1, .slice A2 n2 c2] 29)
 obtain ⟨W0, hW0⟩ := xQ ((w.alloc (.cells #[.int .i64 a.sets, .slice Ai ni ci, .slice An nn cn] 25)).alloc (.cells #[.slice A1 n1 c1, .slice A2 n2 c2] 29))
 rw [hW0] at hb0 x0 y0 z0
 have HR0 := dh (h.below hb0 hB)
 have HC0 := dh (autoCheck_any a Ai ni ci An nn cn W0 B HR0.out (by omega) hri (fun x hx => by have := hr x hx; omega))
 have HWR0 := dh (hw.below hb0 hB)
 have HW0 := dh hW0
 have HB0 := dh hb0
 have HX0 := dh x0
 have HY0 := dh y0
 have HZ0 := dh z0
 clear hW0 hb0 x0 y0 z0 h hw
 go_enter Tryd.func28, Tryd.ntmps28
 go_upto_region 1 with fail
 rw [HW0.out]
 have q0 : W0.cell? ⟨w.1.size, 0, none⟩ = some (.int .i64 a.sets) := cR HX0.out
 have q1 : W0.cell? ⟨w.1.size, 1, none⟩ = some (.slice Ai ni ci) := cR HX0.out
 have q2 : W0.cell? ⟨w.1.size, 2, none⟩ = some (.slice An nn cn) := cR HX0.out
 go_wp2_with fail
 refine HC0.out.mono ?_
 rintro e w1 ⟨rfl, hb1⟩
 have hx1 : w1.1[w.1.size]? = some _ := (hb1.block w.1.size (by have := HZ0.out; omega)).trans HX0.out
 have hy1 : w1.1[w.1.size + 1]? = some _ := (hb1.block (w.1.size + 1) (by have := HZ0.out; omega)).trans HY0.out
 have hz1 := hb1.size
 have HB1 := dh hb1
 clear hb1 q0 q1 q2
 have q0 : w1.cell? ⟨w.1.size, 0, none⟩ = some (.int .i64 a.sets) := cR hx1
 have q1 : w1.cell? ⟨w.1.size, 1, none⟩ = some (.slice Ai ni ci) := cR hx1
 have q2 : w1.cell? ⟨w.1.size, 2, none⟩ = some (.slice An nn cn) := cR hx1
 have r0 : w1.cell? ⟨w.1.size + 1, 0, none⟩ = some (.slice A1 n1 c1) := cR hy1
 have r1 : w1.cell? ⟨w.1.size + 1, 1, none⟩ = some (.slice A2 n2 c2) := cR hy1
 have HBB := dh (HB0.out.trans (HB1.out.mono (show w.1.size ≤ W0.1.size by have := HZ0.out; omega)))
 by_cases hck : chkA a = 0
 ·have HCK := dh hck
  obtain ⟨hn256, ⟨hs0, hs16⟩, hA, -⟩ := chk_iff.1 hck
  have HOK := dh hA
  rw [hck]
  have HWC := dh (pCheck_any A1 A2 n1 c1 n2 c2 st lo w1 HWR0.out.l1 HWR0.out.l2 hl)
  clear hck
  go_wp2_with fail
  refine HWC.out.mono ?_
  rintro e w2 ⟨rfl, hb2⟩
  by_cases h2 : n2 = 0
  ·have HB2 := dh (HBB.out.trans (hb2.mono (show w.1.size ≤ w1.1.size by have := HZ0.out; omega)))
   have HPP : Hid ((decide (chkA a = 0) && decide (0 < n2) && accB a W n1) = false) := dh (by rw [h2]; simp)
   rw [if_pos h2]
   clear hb2
   go_wp2_with fail
   go_ret
   exact ⟨ret_bool HPP.out.symm, HB2.out⟩
  ·have HB2 := dh hb2
   have hx2 : w2.1[w.1.size]? = some _ := (hb2.block w.1.size (by have := HZ0.out; omega)).trans hx1
   have hy2 : w2.1[w.1.size + 1]? = some _ := (hb2.block (w.1.size + 1) (by have := HZ0.out; omega)).trans hy1
   have hz2 := hb2.size
   rw [if_neg h2]
   clear hb2 q0 q1 q2 r0 r1 hx1 hy1
   obtain ⟨s, hss⟩ : ∃ s : Nat, a.sets = s := ⟨a.sets.toNat, by omega⟩
   rw [hss] at hx2
   have q0 : w2.cell? ⟨w.1.size, 0, none⟩ = some (.int .i64 (s : Int)) := cR hx2
   have q1 : w2.cell? ⟨w.1.size, 1, none⟩ = some (.slice Ai ni ci) := cR hx2
   have q2 : w2.cell? ⟨w.1.size, 2, none⟩ = some (.slice An nn cn) := cR hx2
   have r0 : w2.cell? ⟨w.1.size + 1, 0, none⟩ = some (.slice A1 n1 c1) := cR hy2
   have r1 : w2.cell? ⟨w.1.size + 1, 1, none⟩ = some (.slice A2 n2 c2) := cR hy2
   have HNN := dh HR0.out.enn
   have HR2 := dh ((HR0.out.below HB1.out (show B ≤ W0.1.size by have := HZ0.out; omega)).below HB2.out (show B ≤ w1.1.size by have := HZ0.out; omega))
   have HWR2 := dh ((HWR0.out.below HB1.out (show B ≤ W0.1.size by have := HZ0.out; omega)).below HB2.out (show B ≤ w1.1.size by have := HZ0.out; omega))
   have HAL := dh (along_any a s Ai ni ci An nn cn A1 A2 n1 c1 n2 c2 st lo W w2 B HR2.out HWR2.out (by have := HZ0.out; omega) HOK.out (by omega) hnd hri (by rw [← HNN.out] at hn256 ⊢; omega) (fun x hx => by have := hr x hx; omega) hl (by omega) hWl (hat (by omega)) h64)
   have HBC := dh (HBB.out.trans (HB2.out.mono (show w.1.size ≤ w1.1.size by have := HZ0.out; omega)))
   have HSS := dh hss
   have hlp : n1 < W.length := by omega
   clear hx2 hy2 hss
   go_wp2_with fail
   refine HAL.out.mono ?_
   rintro e w3 hp
   obtain ⟨pi, qi, ri, pe, qe, re, pl, ql, rl, pc, qc, rc, rfl, hpl, hb3⟩ := hp.open_
   have HB3 := dh hb3
   have hqi := hpl.eni
   have hqe := hpl.ene
   have hql := hpl.enl
   rw [alongE_len] at hqe
   rw [List.length_replicate] at hql
   have hqil : qi ≤ 100000000 := by
    rw [hqi]
    exact Nat.le_trans (List.length_filter_le _ _) hri
   have HST := dh (starts_any (alongI a W) (alongE a W n1) _ (alongN a (W.length * a.nodes.length)) s pi qi ri pe qe re pl ql rl pc qc rc w3.1.size w3 hpl lR (along_nd HOK.out hlp) (alongI_nd HOK.out hlp) (by rw [hqe, ← HNN.out]; exact hNE) KE (along_row hr) (by rw [hqe, ← HNN.out]; exact hKE) hK2 (by rw [alongN_len', alongE_len]) (alongN_lt hinn _) (by have := HSS.out; omega) (by omega) (by rw [hql, ← HNN.out]; omega))
   have HZZ := dh hb3.size
   have HPP : Hid ((decide (chkA a = 0) && decide (0 < n2) && accB a W n1) = startsB (alongI a W) (alongE a W n1) (alongN a (W.length * a.nodes.length)) s) := dh (by
    have e := starts_acc HOK.out hlp
    have e2 : a.sets.toNat = s := by have := HSS.out; omega
    rw [e2] at e
    rw [HCK.out, e, decide_eq_true (show 0 < n2 by omega)]; simp)
   clear hb3 hpl hqi hqe hql hp
   go_wp2_with fail
   refine HST.out.mono ?_
   rintro e w4 ⟨rfl, hb4⟩
   have HB4 := dh ((HBC.out.trans (HB3.out.mono (show w.1.size ≤ w2.1.size by have := HZ0.out; omega))).trans (hb4.mono (show w.1.size ≤ w3.1.size by have := HZ0.out; have := HZZ.out; omega)))
   clear hb4
   go_wp2_with fail
   go_ret
   exact ⟨ret_bool HPP.out.symm, HB4.out⟩
 ·have hne : ((chkA a) == 0) = false := by rw [beq_eq_false_iff_ne]; exact hck
  have HPP : Hid ((decide (chkA a = 0) && decide (0 < n2) && accB a W n1) = false) := dh (by rw [decide_eq_false hck]; rfl)
  go_wp2_with fail
  go_ret
  exact ⟨ret_bool HPP.out.symm, HBB.out⟩
theorem emptyP_any (a : Aut) (Ai : Option Addr) (ni ci : Nat) (An : Option Addr) (nn cn : Nat) (w : World) (B : Nat) (h : AutRd w B a Ai ni ci An nn cn) (hB : B ≤ w.1.size)
  (hnd : ∀ x ∈ a.nodes, x.need < 2 ^ 64 ∧ x.ban < 2 ^ 64) (hinn : ∀ x ∈ a.nodes, x.inn < 2 ^ 64) (KE : Nat) (hr : ∀ x ∈ a.nodes, x.to.length ≤ KE) (hri : a.init.length ≤ 100000000) (hKE : KE ≤ 1000000) :
  Calls Tryd.prog 32 #[.agg #[.int .i64 a.sets, .slice Ai ni ci, .slice An nn cn]] w (Tru w (decide ((trimF a).init = []))) := by
 have hb0 : Below w.1.size w (w.alloc (.cells #[.int .i64 a.sets, .slice Ai ni ci, .slice An nn cn] 25)) := bR.alloc lR _
 have x0 := heap_alloc_new w (.cells #[.int .i64 a.sets, .slice Ai ni ci, .slice An nn cn] 25)
 have z0 : (w.alloc (.cells #[.int .i64 a.sets, .slice Ai ni ci, .slice An nn cn] 25)).1.size = w.1.size + 1 := by simp
 obtain ⟨W0, hW0⟩ := xQ (w.alloc (.cells #[.int .i64 a.sets, .slice Ai ni ci, .slice An nn cn] 25))
 rw [hW0] at hb0 x0 z0
 have HR0 := dh (h.below hb0 hB)
 have HC0 := dh (autoCheck_any a Ai ni ci An nn cn W0 B HR0.out (by omega) hri (fun x hx => by have := hr x hx; omega))
 have HW0 := dh hW0
 have HB0 := dh hb0
 have HX0 := dh x0
 have HZ0 := dh z0
 clear hW0 hb0 x0 z0 h
 go_enter Tryd.func32, Tryd.ntmps32
 go_upto_region 1 with fail
 rw [HW0.out]
 have q0 : W0.cell? ⟨w.1.size, 0, none⟩ = some (.int .i64 a.sets) := cR HX0.out
 have q1 : W0.cell? ⟨w.1.size, 1, none⟩ = some (.slice Ai ni ci) := cR HX0.out
 have q2 : W0.cell? ⟨w.1.size, 2, none⟩ = some (.slice An nn cn) := cR HX0.out
 go_wp2_with fail
 refine HC0.out.mono ?_
 rintro e w1 ⟨rfl, hb1⟩
 have hx1 : w1.1[w.1.size]? = some _ := (hb1.block w.1.size (by have := HZ0.out; omega)).trans HX0.out
 have hz1 := hb1.size
 have HB1 := dh hb1
 have HBB := dh (HB0.out.trans (HB1.out.mono (show w.1.size ≤ W0.1.size by have := HZ0.out; omega)))
 clear hb1 q0 q1 q2
 by_cases hck : chkA a = 0
 ·have HCK := dh hck
  obtain ⟨hn256, ⟨hs0, hs16⟩, hA, -⟩ := chk_iff.1 hck
  have HOK := dh hA
  obtain ⟨s, hss⟩ : ∃ s : Nat, a.sets = s := ⟨a.sets.toNat, by omega⟩
  rw [hss] at hx1
  have q0 : w1.cell? ⟨w.1.size, 0, none⟩ = some (.int .i64 (s : Int)) := cR hx1
  have q1 : w1.cell? ⟨w.1.size, 1, none⟩ = some (.slice Ai ni ci) := cR hx1
  have q2 : w1.cell? ⟨w.1.size, 2, none⟩ = some (.slice An nn cn) := cR hx1
  have HNN := dh HR0.out.enn
  have HR1 := dh (HR0.out.below HB1.out (show B ≤ W0.1.size by have := HZ0.out; omega))
  have HOV := dh (over_any a s Ai ni ci An nn cn w1 B HR1.out (by have := HZ0.out; omega) HOK.out (by omega) hnd hri (by omega) (fun x hx => by have := hr x hx; omega))
  have HSS := dh hss
  rw [hck]
  clear hx1 hss hck
  go_wp2_with fail
  refine HOV.out.mono ?_
  rintro e w3 hp
  obtain ⟨pi, qi, ri, pe, qe, re, pl, ql, rl, pc, qc, rc, rfl, hpl, hb3⟩ := hp.open_
  have HB3 := dh hb3
  have hqi := hpl.eni
  have hqe := hpl.ene
  have hql := hpl.enl
  rw [openE_len] at hqe
  have hql' : ql = a.nodes.length := by rw [hql]; simp [needsA]
  have hqil : qi ≤ 100000000 := by
   rw [hqi]
   exact Nat.le_trans (List.length_filter_le _ _) hri
  have hqk : qe * KE ≤ 1000000000 := by
   have : qe * KE ≤ 256 * KE := Nat.mul_le_mul_right _ (by omega)
   omega
  have HST := dh (starts_any (openI a) (openE a) _ (insA a) s pi qi ri pe qe re pl ql rl pc qc rc w3.1.size w3 hpl lR (open_nd HOK.out) (openI_nd HOK.out) (by omega) KE (open_row hr) hqk hKE (by rw [insA_len, openE_len]) (ins_lt hinn) (by have := HSS.out; omega) (by omega) (by omega))
  have HZZ := dh hb3.size
  have HPP : Hid (decide ((trimF a).init = []) = !startsB (openI a) (openE a) (insA a) s) := dh (by
   have e := starts_open HOK.out
   have e2 : a.sets.toNat = s := by have := HSS.out; omega
   rw [e2] at e
   rw [e, Bool.not_not]
   unfold trimF
   rw [if_pos HCK.out])
  clear hb3 hpl hqi hqe hql hp hql' hqk hqil
  go_wp2_with fail
  refine HST.out.mono ?_
  rintro e w4 ⟨rfl, hb4⟩
  have HB4 := dh ((HBB.out.trans (HB3.out.mono (show w.1.size ≤ w1.1.size by have := HZ0.out; omega))).trans (hb4.mono (show w.1.size ≤ w3.1.size by have := HZ0.out; have := HZZ.out; omega)))
  clear hb4
  go_wp2_with fail
  go_ret
  exact ⟨ret_bool HPP.out.symm, HB4.out⟩
 ·have hne : ((chkA a) == 0) = false := by rw [beq_eq_false_iff_ne]; exact hck
  have HPP : Hid (decide ((trimF a).init = []) = true) := dh (by
   unfold trimF
   rw [if_neg hck]; rfl)
  have hne2 : ((chkA a) != 0) = true := by rw [bne_iff_ne]; exact hck
  have hne3 : decide (chkA a = 0) = false := decide_eq_false hck
  clear hck
  go_wp2_with fail
  go_ret
  exact ⟨ret_bool HPP.out.symm, HBB.out⟩
end Go.Proofs.YtiebpncpdbnelaaDoor
