/- The walks of layer 30 (auto): starts, Takes, Empty. -/
import Derived.Test.YtiebpncpdbnelaaDoorZbi
import Derived.Test.YtiebpncpdbnelaaDoorAu6
import Derived.Test.YtiebpncpdbnelaaDoorZat
import Derived.Test.YtiebpncpdbnelaaDoorZbj
namespace Go.Proofs.YtiebpncpdbnelaaDoor
open Go.RowKit
noncomputable def startsB (I : List Int) (E : List (List Nd)) (ins : List Nat) (s : Nat) : Bool := I.any (fun x => (lastR E ins s).getD x.toNat false)
theorem open_nd {a : Aut} (hA : a.Ok) : ∀ r ∈ openE a, ∀ e ∈ r, isNd (openE a).length e.op = true := by
 intro r hr e he
 rw [openE_len]
 obtain ⟨q, hq, rfl⟩ := List.mem_map.1 hr
 obtain ⟨t, ht, rfl⟩ := List.mem_map.1 he
 exact hA.2 _ (at_mem (List.mem_range.1 hq)) t (List.mem_filter.1 ht).1
theorem open_row {a : Aut} {K : Nat} (hK : ∀ x ∈ a.nodes, x.to.length ≤ K) : ∀ r ∈ openE a, r.length ≤ K := by
 intro r hr
 obtain ⟨q, hq, rfl⟩ := List.mem_map.1 hr
 unfold openR
 rw [List.length_map]
 exact Nat.le_trans (List.length_filter_le _ _) (hK _ (at_mem (List.mem_range.1 hq)))
theorem along_at {m n L : Nat} (h : m < L * n) : m / n < L ∧ m % n < n := by
 have hn : 0 < n := by
  rcases Nat.eq_zero_or_pos n with e | e
  ·subst e; omega
  ·exact e
 exact ⟨(Nat.div_lt_iff_lt_mul hn).2 h, Nat.mod_lt _ hn⟩
theorem along_nd {a : Aut} (hA : a.Ok) {W : List Nat} {lp : Nat} (hlp : lp < W.length) : ∀ r ∈ alongE a W lp, ∀ e ∈ r, isNd (alongE a W lp).length e.op = true := by
 intro r hr e he
 rw [alongE_len]
 obtain ⟨m, hm, rfl⟩ := List.mem_map.1 hr
 obtain ⟨h1, h2⟩ := along_at (List.mem_range.1 hm)
 obtain ⟨t, ht, rfl⟩ := List.mem_map.1 he
 obtain ⟨k, rfl, hk⟩ := hA.to h2 (List.mem_filter.1 ht).1
 have hx : nx lp W.length (m / a.nodes.length) < W.length := nx_lt hlp
 have h3 : nx lp W.length (m / a.nodes.length) * a.nodes.length + k < W.length * a.nodes.length := by
  have : (nx lp W.length (m / a.nodes.length) + 1) * a.nodes.length ≤ W.length * a.nodes.length := Nat.mul_le_mul_right _ hx
  rw [Nat.succ_mul] at this
  omega
 refine isNd_iff.2 ⟨?_, ?_⟩
 ·show (0 : Int) ≤ ((nx lp W.length (m / a.nodes.length) : Nat) : Int) * (a.nodes.length : Int) + (k : Int)
  rw [← Int.natCast_mul]; omega
 ·show ((nx lp W.length (m / a.nodes.length) : Nat) : Int) * (a.nodes.length : Int) + (k : Int) < _
  rw [← Int.natCast_mul]; omega
theorem along_row {a : Aut} {W : List Nat} {lp K : Nat} (hK : ∀ x ∈ a.nodes, x.to.length ≤ K) : ∀ r ∈ alongE a W lp, r.length ≤ K := by
 intro r hr
 obtain ⟨m, hm, rfl⟩ := List.mem_map.1 hr
 obtain ⟨_, h2⟩ := along_at (List.mem_range.1 hm)
 unfold alongR
 rw [List.length_map]
 exact Nat.le_trans (List.length_filter_le _ _) (hK _ (at_mem h2))
theorem alongN_at {a : Aut} {M m : Nat} (h : m < M) : (alongN a M).getD m 0 = (a.at (m % a.nodes.length)).inn := by simp [alongN, List.getD, h]
theorem alongN_len' (a : Aut) (M : Nat) : (alongN a M).length = M := by simp [alongN]
theorem starts_acc {a : Aut} (hA : a.Ok) {W : List Nat} {lp : Nat} (hlp : lp < W.length) : startsB (alongI a W) (alongE a W lp) (alongN a (W.length * a.nodes.length)) a.sets.toNat = accB a W lp := by
 rw [Bool.eq_iff_iff, accB_iff, ← along_acc hA hlp]
 unfold startsB
 rw [List.any_eq_true]
 have hlen := alongE_len a W lp
 have hin : ∀ q, q < a.nodes.length → q < W.length * a.nodes.length := fun q hq => by
  have : 1 * a.nodes.length ≤ W.length * a.nodes.length := Nat.mul_le_mul_right _ (by omega)
  omega
 have key : ∀ q, q < a.nodes.length → ((lastR (alongE a W lp) (alongN a (W.length * a.nodes.length)) a.sets.toNat).getD q false = true ↔ Runs (alongE a W lp) (asksD a (fun m => m % a.nodes.length)) q) := by
  intro q hq
  rw [last_iff (by rw [hlen]; exact hin q hq)]
  constructor
  ·refine Runs.congr (fun p hp => ?_)
   rcases List.mem_cons.1 hp with rfl | hp
   ·exact ⟨_, List.mem_cons_self .., fun _ _ => rfl⟩
   ·obtain ⟨i, hi, rfl⟩ := List.mem_map.1 hp
    exact ⟨_, List.mem_cons_of_mem _ (List.mem_map.2 ⟨i, hi, rfl⟩), fun k hk => by
     rw [hlen] at hk
     show ((alongN a (W.length * a.nodes.length)).getD k 0).testBit i = _
     rw [alongN_at hk]⟩
  ·refine Runs.congr (fun p hp => ?_)
   rcases List.mem_cons.1 hp with rfl | hp
   ·exact ⟨_, List.mem_cons_self .., fun _ _ => rfl⟩
   ·obtain ⟨i, hi, rfl⟩ := List.mem_map.1 hp
    exact ⟨_, List.mem_cons_of_mem _ (List.mem_map.2 ⟨i, hi, rfl⟩), fun k hk => by
     rw [hlen] at hk
     show _ = ((alongN a (W.length * a.nodes.length)).getD k 0).testBit i
     rw [alongN_at hk]⟩
 constructor
 ·rintro ⟨x, hx, hl⟩
  obtain ⟨h1, h2⟩ := List.mem_filter.1 hx
  obtain ⟨q, rfl, hq⟩ := hA.first h1
  rw [Int.toNat_natCast] at hl h2
  exact ⟨q, h1, h2, (key q hq).1 hl⟩
 ·rintro ⟨q, h1, h2, h3⟩
  obtain ⟨q', e, hq⟩ := hA.first h1
  have : q = q' := by omega
  subst this
  exact ⟨(q : Int), List.mem_filter.2 ⟨h1, by rw [Int.toNat_natCast]; exact h2⟩, by rw [Int.toNat_natCast]; exact (key q hq).2 h3⟩
theorem starts_open {a : Aut} (hA : a.Ok) : startsB (openI a) (openE a) (insA a) a.sets.toNat = !decide ((trimA a).init = []) := by
 rw [Bool.eq_iff_iff, Bool.not_eq_true', decide_eq_false_iff_not]
 refine Iff.trans ?_ (trim_first hA).symm
 unfold startsB
 rw [List.any_eq_true]
 constructor
 ·rintro ⟨x, hx, hl⟩
  obtain ⟨q, rfl, hq⟩ := hA.first (List.mem_filter.1 hx).1
  rw [Int.toNat_natCast] at hl
  exact ⟨q, hx, (last_iff (by rw [openE_len]; exact hq)).1 hl⟩
 ·rintro ⟨q, hx, hr⟩
  obtain ⟨q', e, hq⟩ := hA.first (List.mem_filter.1 hx).1
  have : q = q' := by omega
  subst this
  exact ⟨(q : Int), hx, by rw [Int.toNat_natCast]; exact (last_iff (by rw [openE_len]; exact hq)).2 hr⟩
set_option maxHeartbeats 400000 in
theorem starts1_any (x : Int) (b : Nat) (A : Option Addr) (n c : Nat) (l : List Bool) (w : World) (B : Nat) (h0 : w.cell? ⟨b, 0, none⟩ = some (.slice A n c)) (hs : Sl w B 1 A n c (bcells l)) (hx : isNd n x = true) :
  Calls Tryd.prog 83 #[.int .i64 x, .pointer (some ⟨b, 0, none⟩)] w (Tru w (l.getD x.toNat false)) := by
 obtain ⟨k, rfl, hk⟩ := isNd_nat hx
 have hn : n = l.length := by have := hs.len; rw [bcells_len] at this; omega
 have hbc : (bcells l)[k]? = some (.bool (l.getD k false)) := by simp [bcells, List.getD, show k < l.length by omega]
 obtain ⟨bb, o, rfl, hbb, hc⟩ := hs.rd.at_ hbc
 have hcap := hs.cap
 have hmax := hs.max
 unfold maxLen at hmax
 have hk0 : (0 : Int) ≤ (k : Int) := by omega
 have hk1 : (k : Int) < (n : Int) := by omega
 rw [Int.toNat_natCast]
 generalize l.getD k false = v at *
 clear hx hbc hs
 go_enter Tryd.func83, Tryd.ntmps83
 go_wp2_with fail
 go_ret
 exact ⟨rfl, Below.refl _ _⟩
set_option maxHeartbeats 2000000 in
theorem index_austa (b : Nat) (p : Int → Bool) (l : List Int) (A : Option Addr) (n c : Nat) (w : World) (B : Nat) (hs : Sl w B 1 A n c (icells l)) (hB : B ≤ w.heap.size) (hn : n = l.length) (hl : n ≤ 100000000000)
  (HC : Hid (∀ (x : Int) (w' : World), x ∈ l → Below w.heap.size w w' → Calls Tryd.prog 83 #[.int .i64 x, .pointer (some ⟨b, 0, none⟩)] w' (Tru w' (p x)))) :
  Calls Tryd.prog 78 #[.slice A n c, .func (.func 83) #[] #[.pointer (some ⟨b, 0, none⟩)]] w (Fnd w (l.any p)) := by
 subst hn
 go_enter Tryd.func78, Tryd.ntmps78
 go_wp2
 go_loopw [8] (fun i wr => ∃ k : Nat, k ≤ l.length ∧ i = .int .i64 k ∧ Below w.heap.size w wr ∧ Hid ((l.take k).any p = false)) (fun i _ => l.length - (intOf i).toNat)
 case atStart => exact ⟨0, by omega, rfl, Below.refl _ _, rfl⟩
 case round =>
  obtain ⟨k, hk, rfl, hbr, HA⟩ := hrel
  have hsw := hbr.size
  by_cases hlt : k < l.length
  ·obtain ⟨bb, o, rfl, _, hc0⟩ := (hs.rd.below hbr hB).at_ (j := k) (icells_at hlt)
   have hC := HC.out l[k] wr (List.getElem_mem hlt) hbr
   have hmem := List.getElem_mem hlt
   have hsn : (l.take (k + 1)).any p = (p l[k]) := by rw [take_snoc l k hlt, List.any_append, HA.out]; simp
   obtain ⟨x, hx⟩ : ∃ x, l[k] = x := ⟨_, rfl⟩
   rw [hx] at hc0
   rw [hx] at hC hsn hmem
   have HCC := Lib.hid hC
   have HS := Lib.hid hsn
   have HM := Lib.hid hmem
   clear hx hC hsn hmem
   cases hb : p x
   ·have HB := Lib.hid hb
    clear hb
    go_wp2_with fail
    refine Calls.mono HCC.out ?_
    rw [HB.out]
    rintro e w2 ⟨rfl, hb2⟩
    go_wp2
    go_roundw
    case rel => exact ⟨k + 1, by omega, by go_num, hbr.trans (hb2.mono hsw), by show _ = _; rw [HS.out]; exact HB.out⟩
    case measure => simp [intOf]; omega
   ·have HB := Lib.hid hb
    clear hb
    go_wp2_with fail
    refine Calls.mono HCC.out ?_
    rw [HB.out]
    rintro e w2 ⟨rfl, hb2⟩
    go_wp2
    go_ret
    exact ⟨_, rfl, by omega, by omega, hbr.trans (hb2.mono hsw), by rw [List.any_eq_true.2 ⟨x, HM.out, HB.out⟩]; simp⟩
  ·have hkl : k = l.length := by omega
   subst hkl
   rw [List.take_of_length_le (Nat.le_refl _)] at HA
   go_wp2
   go_ret
   exact ⟨_, rfl, by omega, by omega, hbr, by rw [HA.out]; rfl⟩
set_option maxHeartbeats 400000 in
theorem contains_austa (b : Nat) (p : Int → Bool) (l : List Int) (A : Option Addr) (n c : Nat) (w : World) (B : Nat) (hs : Sl w B 1 A n c (icells l)) (hB : B ≤ w.heap.size) (hn : n = l.length) (hl : n ≤ 100000000000)
  (HC : Hid (∀ (x : Int) (w' : World), x ∈ l → Below w.heap.size w w' → Calls Tryd.prog 83 #[.int .i64 x, .pointer (some ⟨b, 0, none⟩)] w' (Tru w' (p x)))) :
  Calls Tryd.prog 50 #[.slice A n c, .func (.func 83) #[] #[.pointer (some ⟨b, 0, none⟩)]] w (Tru w (l.any p)) := by
 go_enter Tryd.func50, Tryd.ntmps50
 have hI := Lib.hid (index_austa b p l A n c w B hs hB hn hl HC)
 clear hn hs hl
 go_wp2_with fail
 refine Calls.mono hI.out ?_
 rintro e w1 ⟨k, rfl, _, _, hb, hk⟩
 go_wp2
 go_ret
 exact ⟨rfl, hb⟩
set_option maxHeartbeats 2000000 in
set_option maxRecDepth 100000 in
theorem starts_any (I : List Int) (E : List (List Nd)) (L ins : List Nat) (s : Nat) (ai : Option Addr) (ni ci : Nat) (ae : Option Addr) (ne ce : Nat) (al : Option Addr) (nl cl : Nat) (ac : Option Addr) (nc cc : Nat) (B : Nat) (w : World)
  (h : PlayRd w B ai ni ci ae ne ce al nl cl ac nc cc I E L ins) (hB : B ≤ w.heap.size) (hEn : ∀ r ∈ E, ∀ e ∈ r, isNd E.length e.op = true) (hI : ∀ x ∈ I, isNd E.length x = true) (hN : ne ≤ 65536) (KE : Nat) (hr : ∀ r ∈ E, r.length ≤ KE) (hKE : ne * KE ≤ 1000000000) (hK2 : KE ≤ 1000000) (hil : ins.length = E.length) (h64 : ∀ x, ins.getD x 0 < 2 ^ 64) (hs : s ≤ 16)
  (hi : ni ≤ 1000000000) (hl : nl ≤ 17592186044416) :
  Calls Tryd.prog 56 #[.agg #[.slice ai ni ci, .slice ae ne ce, .slice al nl cl, .slice ac nc cc, .int .u64 (allB s : Int)]] w (Tru w (startsB I E ins s)) := by
 have hb0 : Below w.heap.size w (w.alloc (.cells #[.slice ai ni ci, .slice ae ne ce, .slice al nl cl, .slice ac nc cc, .int .u64 (allB s : Int)] 74)) := (Below.refl _ _).alloc (Nat.le_refl _) _
 have x0 := heap_alloc_new w (.cells #[.slice ai ni ci, .slice ae ne ce, .slice al nl cl, .slice ac nc cc, .int .u64 (allB s : Int)] 74)
 have hz0 : (w.alloc (.cells #[.slice ai ni ci, .slice ae ne ce, .slice al nl cl, .slice ac nc cc, .int .u64 (allB s : Int)] 74)).heap.size = w.heap.size + 1 := by simp
 obtain ⟨W0, hW0⟩ : ∃ W0, w.alloc (.cells #[.slice ai ni ci, .slice ae ne ce, .slice al nl cl, .slice ac nc cc, .int .u64 (allB s : Int)] 74) = W0 := ⟨_, rfl⟩
 rw [hW0] at hb0 x0 hz0
 have HR0 := Lib.hid (h.below hb0 hB)
 have HL := Lib.hid (lasting_any I E L ins s ai ni ci ae ne ce al nl cl ac nc cc B W0 HR0.out (by omega) hEn hN KE hr hKE hK2 hil h64 hs hi hl)
 have HW0 := Lib.hid hW0
 have HNE := Lib.hid h.ene
 have HNI := Lib.hid h.eni
 have HB0 := Lib.hid hb0
 have HX0 := Lib.hid x0
 have HZ0 := Lib.hid hz0
 have HI := Lib.hid hI
 clear hW0 h hb0 x0 hz0 hEn hr hil h64 hI
 go_enter Tryd.func56, Tryd.ntmps56
 go_upto_region 1 with fail
 rw [HW0.out]
 have q0 : W0.cell? ⟨w.heap.size, 0, none⟩ = some (.slice ai ni ci) := by rw [cell_of_row _ _ _ _ _ (0, 0) HX0.out]; rfl
 have q1 : W0.cell? ⟨w.heap.size, 1, none⟩ = some (.slice ae ne ce) := by rw [cell_of_row _ _ _ _ _ (0, 0) HX0.out]; rfl
 have q2 : W0.cell? ⟨w.heap.size, 2, none⟩ = some (.slice al nl cl) := by rw [cell_of_row _ _ _ _ _ (0, 0) HX0.out]; rfl
 have q3 : W0.cell? ⟨w.heap.size, 3, none⟩ = some (.slice ac nc cc) := by rw [cell_of_row _ _ _ _ _ (0, 0) HX0.out]; rfl
 have q4 : W0.cell? ⟨w.heap.size, 4, none⟩ = some (.int .u64 (allB s : Int)) := by rw [cell_of_row _ _ _ _ _ (0, 0) HX0.out]; rfl
 go_wp2_with fail
 refine HL.out.mono ?_
 rintro e w1 ⟨v, rfl, hv, hb1, -⟩
 obtain ⟨A1, c1, rfl, hs1⟩ := own_sl hv
 have hz1 := hb1.size
 have HB1 := Lib.hid hb1
 have HS1 := Lib.hid hs1
 have hx1 : w1.heap[w.heap.size]? = some _ := (hb1.block w.heap.size (by have := HZ0.out; omega)).trans HX0.out
 clear hb1 hv hs1 q0 q1 q2 q3 q4
 obtain ⟨wB, hwB⟩ : ∃ X, w1.alloc (.cells #[.slice A1 ne c1] 54) = X := ⟨_, rfl⟩
 have HWB := Lib.hid hwB
 have hbB : Below w1.heap.size w1 wB := by rw [← hwB]; exact (Below.refl _ _).alloc (Nat.le_refl _) _
 have hzB : wB.heap.size = w1.heap.size + 1 := by rw [← hwB]; simp
 have hcB : wB.cell? ⟨w1.heap.size, 0, none⟩ = some (.slice A1 ne c1) := by rw [← hwB]; exact (Boxed.new w1 _ _).cell
 have hxB : wB.heap[w.heap.size]? = some _ := (hbB.block w.heap.size (by have := HZ0.out; omega)).trans hx1
 have q0 : wB.cell? ⟨w.heap.size, 0, none⟩ = some (.slice ai ni ci) := by rw [cell_of_row _ _ _ _ _ (0, 0) hxB]; rfl
 have HSB := Lib.hid (HS1.out.below hbB (Nat.le_refl _))
 have HIB := Lib.hid ((((HR0.out.below HB1.out (by have := HZ0.out; omega)).below hbB (by have := HZ0.out; omega)).g.hi).up (show B ≤ wB.heap.size by have := HZ0.out; omega))
 have HBW := Lib.hid ((HB0.out.trans (HB1.out.mono (by have := HZ0.out; omega))).trans (hbB.mono (show w.heap.size ≤ w1.heap.size by have := HZ0.out; omega)))
 have HC := Lib.hid (contains_austa w1.heap.size (fun x => (lastR E ins s).getD x.toNat false) I ai ni ci wB wB.heap.size HIB.out (Nat.le_refl _) HNI.out (by omega) (Lib.hid (fun x w2 hx hb2 => starts1_any x w1.heap.size A1 ne c1 (lastR E ins s) w2 w1.heap.size ((hb2.cell (p := ⟨w1.heap.size, 0, none⟩) (show w1.heap.size < wB.heap.size by omega)).trans hcB) (HSB.out.below hb2 (by omega)) (by rw [HNE.out]; exact HI.out x hx))))
 have HCB := Lib.hid hcB
 clear hwB hbB hcB hxB hx1
 go_upto_region 2 with fail
 rw [HWB.out]
 go_wp2_with fail
 refine HC.out.mono ?_
 rintro e w3 ⟨rfl, hb3⟩
 have HB3 := Lib.hid (HBW.out.trans (hb3.mono (show w.heap.size ≤ wB.heap.size by have := HZ0.out; omega)))
 clear hb3
 go_wp2_with fail
 go_ret
 exact ⟨rfl, HB3.out⟩
end Go.Proofs.YtiebpncpdbnelaaDoor
