/- Texts that stand one behind the other, in one file. -/
import Derived.Test.YtiebpncpdbnelaaGreatDoorZbi
import Derived.ScopeJumps
set_option maxHeartbeats 4000000
set_option maxRecDepth 100000
namespace Go.Proofs.YtiebpncpdbnelaaGreatDoor
open Go.RowKit
theorem bareS_zero {x y : Nat} (hx : x < 2 ^ 64) (hy : y < 2 ^ 64) : bare64 y x = 0 ↔ y &&& x = y := by
 rw [sub_bits]
 constructor
 ·intro h b hb
  have := bare64_bit hy hx b
  rw [h, Nat.zero_testBit, hb, Bool.true_and] at this
  simpa using this.symm
 ·intro h
  refine Nat.eq_of_testBit_eq (fun b => ?_)
  rw [bare64_bit hy hx, Nat.zero_testBit]
  cases hb : y.testBit b
  ·rfl
  ·rw [h b hb]; rfl
theorem bareS_in {x y s : Nat} (hx : x < 2 ^ 64) (hy : y < 2 ^ 64) : bare64 x y &&& allB s = 0 ↔ x &&& y &&& allB s = x &&& allB s := by
 rw [in_bits]
 constructor
 ·intro h b hs hb
  have := congrArg (fun z => z.testBit b) h
  simp only [Nat.testBit_and, bare64_bit hx hy, allB_bit, hb, decide_eq_true hs, Nat.zero_testBit, Bool.true_and, Bool.and_true] at this
  simpa using this
 ·intro h
  refine Nat.eq_of_testBit_eq (fun b => ?_)
  rw [Nat.testBit_and, bare64_bit hx hy, allB_bit, Nat.zero_testBit]
  by_cases hs : b < s
  ·cases hb : x.testBit b
   ·rfl
   ·rw [h b hs hb]; rfl
  ·rw [decide_eq_false hs, Bool.and_false]
theorem alone_any (x y : ANd) (s : Nat) (Ax Ay : Option Addr) (nx cx ny cy : Nat) (w : World) (hx : x.need < 2 ^ 64 ∧ x.ban < 2 ^ 64 ∧ x.inn < 2 ^ 64) (hy : y.need < 2 ^ 64 ∧ y.ban < 2 ^ 64 ∧ y.inn < 2 ^ 64) (hs : s ≤ 16) :
  Calls Tryz.prog 43 #[.agg #[.int .u64 (x.need : Int), .int .u64 (x.ban : Int), .int .u64 (x.inn : Int), .slice Ax nx cx], .agg #[.int .u64 (y.need : Int), .int .u64 (y.ban : Int), .int .u64 (y.inn : Int), .slice Ay ny cy], .int .i64 (s : Int)] w (Tru w (aloneB x y s)) := by
 obtain ⟨hb0, x0, y0, z0⟩ := two_new w (.cells #[.int .u64 (x.need : Int), .int .u64 (x.ban : Int), .int .u64 (x.inn : Int), .slice Ax nx cx] 36) (.cells #[.int .u64 (y.need : Int), .int .u64 (y.ban : Int), .int .u64 (y.inn : Int), .slice Ay ny cy] 36)
 obtain ⟨W0, hW0⟩ := xQ ((w.alloc (.cells #[.int .u64 (x.need : Int), .int .u64 (x.ban : Int), .int .u64 (x.inn : Int), .slice Ax nx cx] 36)).alloc (.cells #[.int .u64 (y.need : Int), .int .u64 (y.ban : Int), .int .u64 (y.inn : Int), .slice Ay ny cy] 36))
 rw [hW0] at hb0 x0 y0 z0
 have p1 := wrap_pow (show s < 64 by omega)
 obtain ⟨p, hp⟩ := xQ (2 ^ s)
 have hp0 : 0 < p := by rw [← hp]; exact Nat.pow_pos (by omega)
 have hp1 : p < 2 ^ 64 := by rw [← hp]; exact pow_lt64 (by omega)
 rw [hp] at p1
 have p2 : IntKind.u64.wrap ((p : Int) - 1) = ((allB s : Nat) : Int) := by rw [IntKind.wrap_u64, allB, hp]; omega
 have hal : allB s < 2 ^ 64 := by rw [allB, hp]; omega
 have hs0 : ¬ (s : Int) < 0 := by omega
 have hs1 : (0 : Int) ≤ (s : Int) := by omega
 have hsh : Op.shift .shl .u64 1 .i64 (s : Int) = pure (.int .u64 (p : Int)) := by
  rw [shift_shl .u64 .i64 1 _ (by omega) (by show (s : Int) ≤ 64; omega), tN, Int.one_mul, p1]
 obtain ⟨al, hal2⟩ := xQ (allB s)
 have HAB : Hid (aloneB x y s = (decide (bare64 y.need x.need = 0) && decide (bare64 y.ban x.ban = 0) && decide (bare64 x.inn y.inn &&& al = 0))) := dh (by
  unfold aloneB
  rw [← hal2]
  rw [decide_eq_decide.2 (bareS_zero hx.1 hy.1), decide_eq_decide.2 (bareS_zero hx.2.1 hy.2.1), decide_eq_decide.2 (bareS_in (s := s) hx.2.2 hy.2.2)])
 have a1 := andNot_bit hy.1 hx.1
 have a2 := andNot_bit hy.2.1 hx.2.1
 have a3 := andNot_bit hx.2.2 hy.2.2
 rw [hal2] at p2 hal
 have a4 := and_bit7 (bare64_lt y.inn hx.2.2) hal
 have HW0 := dh hW0
 have HB0 := dh hb0
 have q0 : W0.cell? ⟨w.1.size, 0, none⟩ = some (.int .u64 (x.need : Int)) := cR x0
 have q1 : W0.cell? ⟨w.1.size, 1, none⟩ = some (.int .u64 (x.ban : Int)) := cR x0
 have q2 : W0.cell? ⟨w.1.size, 2, none⟩ = some (.int .u64 (x.inn : Int)) := cR x0
 have r0 : W0.cell? ⟨w.1.size + 1, 0, none⟩ = some (.int .u64 (y.need : Int)) := cR y0
 have r1 : W0.cell? ⟨w.1.size + 1, 1, none⟩ = some (.int .u64 (y.ban : Int)) := cR y0
 have r2 : W0.cell? ⟨w.1.size + 1, 2, none⟩ = some (.int .u64 (y.inn : Int)) := cR y0
 obtain ⟨b1, hb1⟩ := xQ (((bare64 y.need x.need : Nat) : Int) == 0)
 obtain ⟨b2, hb2⟩ := xQ (((bare64 y.ban x.ban : Nat) : Int) == 0)
 obtain ⟨b3, hb3⟩ := xQ (((bare64 x.inn y.inn &&& al : Nat) : Int) == 0)
 have HR : Hid (aloneB x y s = (b1 && b2 && b3)) := dh (by
  rw [HAB.out, ← hb1, ← hb2, ← hb3]
  congr 1
  ·congr 1 <;> (rw [Bool.eq_iff_iff, decide_eq_true_eq, beq_iff_eq]; omega)
  ·rw [Bool.eq_iff_iff, decide_eq_true_eq, beq_iff_eq]; omega)
 generalize bare64 y.need x.need = n1 at *
 generalize bare64 y.ban x.ban = n2 at *
 generalize bare64 x.inn y.inn &&& al = n4 at *
 generalize bare64 x.inn y.inn = n3 at *
 clear hW0 hb0 x0 y0 hx hy hp HAB hal2 hal hp0 hp1
 go_enter Tryz.func43, Tryz.ntmps43
 go_upto_region 1 with fail
 rw [HW0.out]
 cases b1
 ·go_wp2_with fail
  go_ret
  exact ⟨by rw [HR.out]; rfl, HB0.out⟩
 ·cases b2
  ·go_wp2_with fail
   go_ret
   exact ⟨by rw [HR.out]; rfl, HB0.out⟩
  ·go_wp2_with fail
   go_ret
   exact ⟨by rw [HR.out]; rfl, HB0.out⟩
end Go.Proofs.YtiebpncpdbnelaaGreatDoor
namespace Go.Proofs.YtiebpncpdbnelaaGreatDoor
open Go.RowKit
def relF (L : List Bool) (i k : Nat) : Bool := L.getD (i * 256 + k) false
def follB (a : Aut) (L : List Bool) (i k : Nat) : Bool := (a.at i).to.all (fun t => (a.at k).to.any (fun u => relF L t.toNat u.toNat))
structure RowsM (w : World) (base : Nat) (g n c : Nat) (L : List Bool) : Prop where
 own : w.ownsRow base 75 256 (.slice (some ⟨g, 0, none⟩) n c) n (bcells L)
theorem RowsM.len {w : World} {base g n c : Nat} {L : List Bool} (h : RowsM w base g n c L) : L.length = n * 256 := by have := h.own.1; rwa [bcells_len] at this
theorem RowsM.cell {w : World} {base g n c : Nat} {L : List Bool} (h : RowsM w base g n c L) {i k : Nat} (hi : i < n) (hk : k < 256) : w.cell? ⟨g, i * 256 + k, none⟩ = some (.bool (relF L i k)) := by
 have hl : i * 256 + k < n * 256 := by omega
 have hL := h.len
 rw [h.own.cellAt (i * 256 + k) hl]
 exact bcells'_at (by omega)
theorem RowsM.below {w w' : World} {base g n c : Nat} {L : List Bool} (h : RowsM w base g n c L) (hb : Below w.1.size w w') : RowsM w' base g n c L := ⟨own_below h.own hb⟩
theorem RowsM.cap {w : World} {base g n c : Nat} {L : List Bool} (h : RowsM w base g n c L) : n ≤ c ∧ c ≤ maxLen := by
 obtain ⟨A, c', e, hs⟩ := own_sl h.own
 cases e
 exact ⟨hs.cap, hs.max⟩
theorem rel1_any (L : List Bool) (base g n c rb tb t u : Nat) (w : World) (h : RowsM w base g n c L) (hr : w.cell? ⟨rb, 0, none⟩ = some (.slice (some ⟨g, 0, none⟩) n c)) (ht : w.cell? ⟨tb, 0, none⟩ = some (.int .i64 (t : Int))) (htn : t < n) (hu : u < 256) :
  Calls Tryz.prog 64 #[.int .i64 (u : Int), .pointer (some ⟨rb, 0, none⟩), .pointer (some ⟨tb, 0, none⟩)] w (Tru w (relF L t u)) := by
 have q := h.cell htn hu
 have h0 : (0 : Int) ≤ (t : Int) := by omega
 have h1 : (t : Int) < (n : Int) := by omega
 have h2 : (0 : Int) ≤ (u : Int) := by omega
 have h3 : (u : Int) < 256 := by omega
 have hcp := h.cap
 unfold maxLen at hcp
 obtain ⟨hc1, hc2⟩ := hcp
 clear h
 go_enter Tryz.func64, Tryz.ntmps64
 go_wp2_with fail
 go_ret
 exact ⟨rfl, bR⟩
theorem index_rel1 (rb tb : Nat) (p : Int → Bool) (l : List Int) (A : Option Addr) (n c : Nat) (w : World) (B : Nat) (hs : Sl w B 1 A n c (icells l)) (hB : B ≤ w.1.size) (hn : n = l.length) (hl : n ≤ 100000000000)
  (HC : Hid (∀ (x : Int) (w' : World), x ∈ l → Below w.1.size w w' → Calls Tryz.prog 64 #[.int .i64 x, .pointer (some ⟨rb, 0, none⟩), .pointer (some ⟨tb, 0, none⟩)] w' (Tru w' (p x)))) :
  Calls Tryz.prog 46 #[.slice A n c, .func (.func 64) #[] #[.pointer (some ⟨rb, 0, none⟩), .pointer (some ⟨tb, 0, none⟩)]] w (Fnd w (l.any p)) := by
 subst hn
 go_enter Tryz.func46, Tryz.ntmps46
 go_wp2
 go_loopw [8] (fun i wr => ∃ k : Nat, k ≤ l.length ∧ i = .int .i64 k ∧ Below w.1.size w wr ∧ Hid ((l.take k).any p = false)) (fun i _ => l.length - (intOf i).toNat)
 case atStart => exact ⟨0, by omega, rfl, bR, rfl⟩
 case round =>
  obtain ⟨k, hk, rfl, hbr, HA⟩ := hrel
  have hsw := hbr.size
  by_cases hlt : k < l.length
  ·obtain ⟨bb, o, rfl, _, hc0⟩ := (hs.rd.below hbr hB).at_ (j := k) (icells_at hlt)
   have hC := HC.out l[k] wr (mM hlt) hbr
   have hmem := mM hlt
   have hsn : (l.take (k + 1)).any p = (p l[k]) := by rw [take_snoc l k hlt, List.any_append, HA.out]; simp
   obtain ⟨x, hx⟩ := xQ (l[k])
   rw [hx] at hc0
   rw [hx] at hC hsn hmem
   have HCC := dh hC
   have HS := dh hsn
   have HM := dh hmem
   clear hx hC hsn hmem
   cases hb : p x
   ·have HB := dh hb
    clear hb
    go_wp2_with fail
    refine Calls.mono HCC.out ?_
    rw [HB.out]
    rintro e w2 ⟨rfl, hb2⟩
    go_wp2
    go_roundw
    case rel => exact ⟨k + 1, by omega, by go_num, hbr.trans (hb2.mono hsw), by show _ = _; rw [HS.out]; exact HB.out⟩
    case measure => simp [intOf]; omega
   ·have HB := dh hb
    clear hb
    go_wp2_with fail
    refine Calls.mono HCC.out ?_
    rw [HB.out]
    rintro e w2 ⟨rfl, hb2⟩
    go_wp2
    go_ret
    exact ⟨_, rfl, by omega, by omega, hbr.trans (hb2.mono hsw), by rw [List.any_eq_true.2 ⟨x, HM.out, HB.out⟩]; simp⟩
  ·have hkl : k = l.length := by omega
   subst hkl
   rw [tL lR] at HA
   go_wp2
   go_ret
   exact ⟨_, rfl, by omega, by omega, hbr, by rw [HA.out]; rfl⟩
theorem contains_rel1 (rb tb : Nat) (p : Int → Bool) (l : List Int) (A : Option Addr) (n c : Nat) (w : World) (B : Nat) (hs : Sl w B 1 A n c (icells l)) (hB : B ≤ w.1.size) (hn : n = l.length) (hl : n ≤ 100000000000)
  (HC : Hid (∀ (x : Int) (w' : World), x ∈ l → Below w.1.size w w' → Calls Tryz.prog 64 #[.int .i64 x, .pointer (some ⟨rb, 0, none⟩), .pointer (some ⟨tb, 0, none⟩)] w' (Tru w' (p x)))) :
  Calls Tryz.prog 25 #[.slice A n c, .func (.func 64) #[] #[.pointer (some ⟨rb, 0, none⟩), .pointer (some ⟨tb, 0, none⟩)]] w (Tru w (l.any p)) := by
 go_enter Tryz.func25, Tryz.ntmps25
 have hI := dh (index_rel1 rb tb p l A n c w B hs hB hn hl HC)
 clear hn hs hl
 go_wp2_with fail
 refine Calls.mono hI.out ?_
 rintro e w1 ⟨k, rfl, _, _, hb, hk⟩
 go_wp2
 go_ret
 exact ⟨rfl, hb⟩
end Go.Proofs.YtiebpncpdbnelaaGreatDoor
namespace Go.Proofs.YtiebpncpdbnelaaGreatDoor
open Go.RowKit
theorem follows_any (a : Aut) (Ai : Option Addr) (ni ci : Nat) (An : Option Addr) (nn cn : Nat) (w : World) (B : Nat) (h : AutRd w B a Ai ni ci An nn cn) (hB : B ≤ w.1.size) (hA : a.Ok) (base g c : Nat) (L : List Bool) (hr : RowsM w base g nn c L) (i k : Nat) (hi : i < nn) (hk : k < nn) (hn : nn ≤ 256) (hto : ∀ x ∈ a.nodes, x.to.length ≤ 100000000) :
  Calls Tryz.prog 44 #[.agg #[.int .i64 a.sets, .slice Ai ni ci, .slice An nn cn], .slice (some ⟨g, 0, none⟩) nn c, .int .i64 (i : Int), .int .i64 (k : Int)] w (Tru w (follB a L i k)) := by
 obtain ⟨hb0, x0, y0, z0⟩ := two_new w (.cells #[.int .i64 a.sets, .slice Ai ni ci, .slice An nn cn] 25) (.cells #[.slice (some ⟨g, 0, none⟩) nn c] 72)
 obtain ⟨W0, hW0⟩ := xQ ((w.alloc (.cells #[.int .i64 a.sets, .slice Ai ni ci, .slice An nn cn] 25)).alloc (.cells #[.slice (some ⟨g, 0, none⟩) nn c] 72))
 rw [hW0] at hb0 x0 y0 z0
 have hq0 : w.1.size + 1 < W0.1.size := by omega
 have HR0 := dh (h.below hb0 hB)
 have HM0 := dh (hr.below hb0)
 have HNN := dh h.enn
 have HW0 := dh hW0
 have HB0 := dh hb0
 have HX0 := dh x0
 have HY0 := dh y0
 have hBw : B ≤ W0.1.size := by omega
 obtain ⟨bx, ox, x, At, ct, hAn, hbx, hx, -, -, -, c3, hst⟩ := rd_aut HR0.out hi
 have hxi : a.at i = x := by unfold Aut.at; rw [gD, hx]; rfl
 have hxm : x ∈ a.nodes := List.mem_of_getElem? hx
 have HOKx := dh (fun t ht => hA.2 x hxm t ht)
 have hlx := hto x hxm
 obtain ⟨y, hy⟩ : ∃ y, a.nodes[k]? = some y := ⟨_, gE (by rw [← HNN.out]; exact hk)⟩
 have hyk : a.at k = y := by unfold Aut.at; rw [gD, hy]; rfl
 have HYM := dh (List.mem_of_getElem? hy)
 have hly := hto y HYM.out
 have HFO : Hid (follB a L i k = x.to.all (fun t => y.to.any (fun u => relF L t.toNat u.toNat))) := dh (by unfold follB; rw [hxi, hyk])
 have HYY := dh hy
 have HST := dh hst
 have HOK := dh hA
 obtain ⟨k0, k1, k2⟩ := box3A x0
 have i0 : (0 : Int) ≤ (i : Int) := by omega
 have i1 : (i : Int) < (nn : Int) := by omega
 have j0 : (0 : Int) ≤ (k : Int) := by omega
 have j1 : (k : Int) < (nn : Int) := by omega
 have hcn := (Exists.choose_spec HR0.out.nodes).1.cap
 have hmn := (Exists.choose_spec HR0.out.nodes).1.max
 unfold maxLen at hmn
 have hct := hst.cap
 have hmt := hst.max
 unfold maxLen at hmt
 subst hAn
 clear hW0 hb0 x0 y0 z0 h hr hst hx hxi hy hyk hto hA
 go_enter Tryz.func44, Tryz.ntmps44
 go_upto_region 1 with fail
 rw [HW0.out]
 go_wp2_with fail
 clear k0 k1 k2 c3
 go_loopw [10, 18] (fun _ j wr => ∃ m : Nat, m ≤ x.to.length ∧ j = .int .i64 (m : Int) ∧ Hid (Below W0.1.size W0 wr) ∧ Hid ((x.to.take m).all (fun t => y.to.any (fun u => relF L t.toNat u.toNat)) = true)) (fun _ j _ => x.to.length - (intOf j).toNat)
 case atStart => exact ⟨0, by omega, rfl, dh bR, dh rfl⟩
 case round =>
  obtain ⟨m, hm, rfl, HBr, HAr⟩ := hrel
  have hzr := HBr.out.size
  by_cases hlt : m < x.to.length
  ·obtain ⟨bb, o, rfl, _, hc0⟩ := (HST.out.rd.below HBr.out hBw).at_ (j := m) (icells_at hlt)
   obtain ⟨tn, htn, htl⟩ := isNd_nat (HOKx.out _ (mM hlt))
   have HTN := dh htn
   rw [htn] at hc0
   have htl' : tn < nn := by rw [HNN.out]; exact htl
   have wm : IntKind.i64.wrap ((m : Int) + 1) = (m : Int) + 1 := by rw [wI]; omega
   have hm0 : (0 : Int) ≤ (m : Int) := by omega
   have hm1 : (m : Int) < (x.to.length : Int) := by omega
   obtain ⟨X, hX⟩ := xQ (wr.alloc (.cells #[.int .i64 (tn : Int)] 3))
   have hbX : Below wr.1.size wr X := by rw [← hX]; exact bR.alloc lR _
   have hzX : X.1.size = wr.1.size + 1 := by rw [← hX]; simp
   have hxX : X.1[wr.1.size]? = some (.cells #[.int .i64 (tn : Int)] 3 (0, 0)) := by rw [← hX]; exact heap_alloc_new wr _
   have HBX := dh (HBr.out.trans (hbX.mono hzr))
   have HXX := dh hX
   have hRX := HR0.out.below HBX.out hBw
   obtain ⟨b2, o2, y2, Ay, cy, hA2, -, hy2, -, -, -, e3, hsy⟩ := rd_aut hRX hk
   cases hA2
   obtain rfl : y = y2 := by have := HYY.out; rw [this] at hy2; exact Option.some.inj hy2
   have HMX := dh (HM0.out.below HBX.out)
   have HCO := dh (contains_rel1 (w.1.size + 1) wr.1.size (fun u => relF L tn u.toNat) y.to Ay y.to.length cy X B hsy (by omega) rfl (by omega) (dh (fun u w' hu hb => by
    obtain ⟨un, rfl, hul⟩ := isNd_nat (HOK.out.2 y HYM.out u hu)
    rw [tN]
    exact rel1_any L base g nn c (w.1.size + 1) wr.1.size tn un w' (HMX.out.below hb)
     ((hb.cell (p := ⟨w.1.size + 1, 0, none⟩) (show w.1.size + 1 < X.1.size by omega)).trans ((HBX.out.cell (p := ⟨w.1.size + 1, 0, none⟩) (show w.1.size + 1 < W0.1.size by omega)).trans (cR HY0.out)))
     ((hb.cell (p := ⟨wr.1.size, 0, none⟩) (show wr.1.size < X.1.size by omega)).trans (cR hxX)) htl' (by have := HNN.out; omega))))
   have HS : Hid ((x.to.take (m + 1)).all (fun t => y.to.any (fun u => relF L t.toNat u.toNat)) = y.to.any (fun u => relF L tn u.toNat)) := dh (by
    rw [take_snoc x.to m hlt, List.all_append, HAr.out, htn]; simp)
   have HE : Hid (x.to.all (fun t => y.to.any (fun u => relF L t.toNat u.toNat)) = true → y.to.any (fun u => relF L tn u.toNat) = true) := dh (fun h => by
    have := List.all_eq_true.1 h _ (mM hlt)
    rw [htn] at this; simpa using this)
   have q2 : X.cell? ⟨w.1.size, 2, none⟩ = some (.slice (some ⟨bx, ox, none⟩) nn cn) := (HBX.out.cell (p := ⟨w.1.size, 2, none⟩) (show w.1.size < W0.1.size by omega)).trans (cR HX0.out)
   generalize y.to.any (fun u => relF L tn u.toNat) = bv at *
   have hcy := hsy.cap
   clear hX hbX hxX hRX hsy hy2 htn
   go_upto_region 4 with fail
   rw [HXX.out]
   go_wp2_with fail
   refine HCO.out.mono ?_
   rintro e w2 ⟨rfl, hb2⟩
   have HB2 := dh (HBX.out.trans (hb2.mono HBX.out.size))
   clear hb2 hc0 e3 q2 hzX
   cases bv
   ·go_wp2_with fail
    go_ret
    refine ⟨?_, HB0.out.trans (HB2.out.mono (show w.1.size ≤ W0.1.size by omega))⟩
    rw [HFO.out]
    cases hall : x.to.all (fun t => y.to.any (fun u => relF L t.toNat u.toNat))
    ·rfl
    ·have := HE.out hall; cases this
   ·go_wp2_with fail
    go_roundw
    case rel => exact ⟨m + 1, by omega, congrArg (Value.int .i64) (by omega), HB2, dh HS.out⟩
    case measure => simp [intOf]; omega
  ·have hml : m = x.to.length := by omega
   have HALL : Hid (follB a L i k = true) := dh (by have := HAr.out; rw [hml, tL lR] at this; rw [HFO.out, this])
   have hle : ¬ (m : Int) < (x.to.length : Int) := by omega
   clear hml
   go_wp2_with fail
   go_ret
   exact ⟨by rw [HALL.out]; rfl, HB0.out.trans (HBr.out.mono (show w.1.size ≤ W0.1.size by omega))⟩
end Go.Proofs.YtiebpncpdbnelaaGreatDoor
namespace Go.Proofs.YtiebpncpdbnelaaGreatDoor
open Go Go.RowKit
theorem exists_least {P : Nat → Prop} (h : ∃ n, P n) : ∃ n, P n ∧ ∀ m, P m → n ≤ m := by
 obtain ⟨n, hn⟩ := h
 induction n using Nat.strongRecOn with
 | _ n ih =>
  by_cases h : ∃ m, m < n ∧ P m
  ·obtain ⟨m, hm, hp⟩ := h
   exact ih m hm hp
  ·exact ⟨n, hn, fun m hm => Nat.le_of_not_lt (fun hl => h ⟨m, hl, hm⟩)⟩
theorem scope_again {P : Program} {a : Act} {w : World} {Q : Exit → Act → World → Prop} {c R : Code} (l : Nat) (J : Nat → Act → World → Prop) (hf : findLabel c l = some (.seq .skip R))
  (pass : ∀ n a w, J n a w → R.wp P (Exit.jump l (fun a' w' => ∃ m, m < n ∧ J m a' w') Q) a w)
  (first : (∀ n a w, J n a w → R.wp P (Exit.jump l (fun a' w' => ∃ m, J m a' w') Q) a w) → c.wp P (Exit.jump l (fun a' w' => ∃ m, J m a' w') Q) a w) : (Code.scope c).wp P Q a w := by
 classical
 have hle : ∀ n a w, J n a w → R.wp P (Exit.jump l (fun a' w' => ∃ m, J m a' w') Q) a w := fun n a w h => wp_mono (pass n a w h) (fun e a w he => by
  cases e with
  | goto l' => exact ⟨he.1, he.2.choose, he.2.choose_spec.2⟩
  | _ => exact he)
 refine wp_scope_jumps l (fun a w => ∃ m, J m a w) (fun a w => if h : ∃ m, J m a w then (exists_least h).choose else 0) hf (first hle) (fun a w hJ => ?_)
 have hs := (exists_least hJ).choose_spec
 refine wp_seq (wp_skip ?_)
 refine wp_mono (pass _ a w hs.1) (fun e a' w' he => ?_)
 cases e with
 | goto l' =>
  obtain ⟨h1, m, hm, hj⟩ := he
  refine ⟨h1, ⟨m, hj⟩, ?_⟩
  rw [dif_pos (⟨m, hj⟩ : ∃ m, J m a' w'), dif_pos hJ]
  exact Nat.lt_of_le_of_lt ((exists_least (⟨m, hj⟩ : ∃ m, J m a' w')).choose_spec.2 m hj) hm
 | _ => exact he
structure InvD (a : Aut) (L : List Bool) : Prop where
 len : L.length = a.nodes.length * 256
 sim : ∀ i k, Sim a i k → relF L i k = true
 one : ∀ i k, i < a.nodes.length → k < a.nodes.length → relF L i k = true → aloneB (a.at i) (a.at k) a.sets.toNat = true
theorem cntB_drop : ∀ {l : List Bool} {j : Nat}, l.getD j false = true → cntB (l.set j false) < cntB l
 | [], j, h => by simp at h
 | x :: r, 0, h => by
  have : x = true := by simpa using h
  subst this
  simp [cntB]
 | x :: r, j + 1, h => by
  have := cntB_drop (l := r) (j := j) (by simpa using h)
  simp only [cntB, List.set_cons_succ, List.countP_cons] at this ⊢
  omega
theorem relF_set {L : List Bool} {i k j m : Nat} {b : Bool} (hk : k < 256) (hm : m < 256) (hl : i * 256 + k < L.length) : relF (L.set (i * 256 + k) b) j m = if i = j ∧ k = m then b else relF L j m := by
 unfold relF
 by_cases h : i = j ∧ k = m
 ·obtain ⟨rfl, rfl⟩ := h
  rw [if_pos ⟨rfl, rfl⟩, gD, List.getElem?_set_self hl]; rfl
 ·rw [if_neg h, gD, List.getElem?_set_ne (by omega), ← gD]
theorem sim_foll {a : Aut} {L : List Bool} (hA : a.Ok) (hs : ∀ i k, Sim a i k → relF L i k = true) {i k : Nat} (h : Sim a i k) : follB a L i k = true := by
 obtain ⟨hi, hk⟩ := (sim_sim a).lt i k h
 refine List.all_eq_true.2 (fun t ht => ?_)
 obtain ⟨tn, rfl, _⟩ := isNd_nat (hA.2 _ (at_mem hi) t ht)
 obtain ⟨u, hu, hr⟩ := (sim_sim a).go i k h tn ht
 exact List.any_eq_true.2 ⟨u, hu, by rw [tN, tN]; exact hs _ _ hr⟩
theorem InvD.drop {a : Aut} {L : List Bool} (h : InvD a L) (hA : a.Ok) (hn : a.nodes.length ≤ 256) {i k : Nat} (hi : i < a.nodes.length) (hk : k < a.nodes.length) (hf : follB a L i k = false) : InvD a (L.set (i * 256 + k) false) := by
 have hl : i * 256 + k < L.length := by rw [h.len]; omega
 refine ⟨by rw [List.length_set, h.len], fun j m hs => ?_, fun j m hj hm hr => ?_⟩
 ·obtain ⟨hj, hm⟩ := (sim_sim a).lt j m hs
  rw [relF_set (by omega) (by omega) hl]
  by_cases e : i = j ∧ k = m
  ·obtain ⟨rfl, rfl⟩ := e
   rw [sim_foll hA h.sim hs] at hf; cases hf
  ·rw [if_neg e]; exact h.sim j m hs
 ·rw [relF_set (by omega) (by omega) hl] at hr
  by_cases e : i = j ∧ k = m
  ·rw [if_pos e] at hr; cases hr
  ·rw [if_neg e] at hr; exact h.one j m hj hm hr
theorem InvD.done {a : Aut} {L : List Bool} (h : InvD a L) (hA : a.Ok) (hf : ∀ i k, i < a.nodes.length → k < a.nodes.length → relF L i k = true → follB a L i k = true) {i k : Nat} (hi : i < a.nodes.length) (hk : k < a.nodes.length) : relF L i k = true ↔ Sim a i k := by
 refine ⟨fun hr => ⟨fun i k => i < a.nodes.length ∧ k < a.nodes.length ∧ relF L i k = true, ⟨fun i k h => ⟨h.1, h.2.1⟩, fun i k e => h.one i k e.1 e.2.1 e.2.2, fun i k e t ht => ?_⟩, hi, hk, hr⟩, fun hs => h.sim i k hs⟩
 have := List.all_eq_true.1 (hf i k e.1 e.2.1 e.2.2) _ ht
 obtain ⟨u, hu, hru⟩ := List.any_eq_true.1 this
 obtain ⟨un, rfl, hul⟩ := isNd_nat (hA.2 _ (at_mem e.2.1) u hu)
 obtain ⟨tn, htn, htl⟩ := isNd_nat (hA.2 _ (at_mem e.1) _ ht)
 have : t = tn := by omega
 subst this
 rw [tN, tN] at hru
 exact ⟨un, hu, htl, hul, hru⟩
def rowD (L : List Bool) (n i : Nat) : List Bool := (List.range n).map (fun k => relF L i k)
theorem rowD_sim {a : Aut} {L : List Bool} (h : InvD a L) (hA : a.Ok) (hf : ∀ i k, i < a.nodes.length → k < a.nodes.length → relF L i k = true → follB a L i k = true) {i : Nat} (hi : i < a.nodes.length) : (simL a)[i]? = some (rowD L a.nodes.length i) := by
 unfold simL rowD
 rw [List.getElem?_map, List.getElem?_range hi]
 simp only [Option.map_some, Option.some.injEq]
 refine List.map_congr_left (fun k hk => ?_)
 have hk' := List.mem_range.1 hk
 rw [Bool.eq_iff_iff, @decide_eq_true_iff _ (Classical.propDecidable _), h.done hA hf hi hk']
def InitD (a : Aut) (L : List Bool) (i k : Nat) : Prop := L.length = a.nodes.length * 256 ∧ ∀ j m, j < a.nodes.length → m < a.nodes.length → (j < i ∨ j = i ∧ m < k) → relF L j m = aloneB (a.at j) (a.at m) a.sets.toNat
theorem InitD.put {a : Aut} {L : List Bool} {i k : Nat} (h : InitD a L i k) (hn : a.nodes.length ≤ 256) (hi : i < a.nodes.length) (hk : k < a.nodes.length) : InitD a (L.set (i * 256 + k) (aloneB (a.at i) (a.at k) a.sets.toNat)) i (k + 1) := by
 have hl : i * 256 + k < L.length := by rw [h.1]; omega
 refine ⟨by rw [List.length_set, h.1], fun j m hj hm hc => ?_⟩
 rw [relF_set (by omega) (by omega) hl]
 by_cases e : i = j ∧ k = m
 ·rw [if_pos e, e.1, e.2]
 ·rw [if_neg e]; exact h.2 j m hj hm (by omega)
theorem InitD.row {a : Aut} {L : List Bool} {i : Nat} (h : InitD a L i a.nodes.length) : InitD a L (i + 1) 0 := ⟨h.1, fun j m hj hm hc => h.2 j m hj hm (by omega)⟩
theorem InitD.inv {a : Aut} {L : List Bool} {k : Nat} (h : InitD a L a.nodes.length k) : InvD a L := by
 refine ⟨h.1, fun i k hs => ?_, fun i k hi hk hr => ?_⟩
 ·obtain ⟨hi, hk⟩ := (sim_sim a).lt i k hs
  rw [h.2 i k hi hk (.inl hi)]; exact (sim_sim a).one i k hs
 ·rw [← h.2 i k hi hk (.inl hi)]; exact hr
def PassD (a : Aut) (L0 L : List Bool) (i k : Nat) : Prop := cntB L < cntB L0 ∨ (L = L0 ∧ ∀ j m, j < a.nodes.length → m < a.nodes.length → (j < i ∨ j = i ∧ m < k) → relF L0 j m = true → follB a L0 j m = true)
theorem PassD.start (a : Aut) (L : List Bool) : PassD a L L 0 0 := .inr ⟨rfl, fun j m _ _ h => absurd h (by omega)⟩
theorem PassD.next {a : Aut} {L0 L : List Bool} {i k : Nat} (h : PassD a L0 L i k) (hg : relF L i k = true → follB a L i k = true) : PassD a L0 L i (k + 1) := by
 rcases h with h | ⟨rfl, h⟩
 ·exact .inl h
 ·refine .inr ⟨rfl, fun j m hj hm hc hr => ?_⟩
  by_cases e : j = i ∧ m = k
  ·obtain ⟨rfl, rfl⟩ := e; exact hg hr
  ·exact h j m hj hm (by omega) hr
theorem PassD.row {a : Aut} {L0 L : List Bool} {i : Nat} (h : PassD a L0 L i a.nodes.length) : PassD a L0 L (i + 1) 0 := by
 rcases h with h | ⟨rfl, h⟩
 ·exact .inl h
 ·exact .inr ⟨rfl, fun j m hj hm hc hr => h j m hj hm (by omega) hr⟩
theorem PassD.drop {a : Aut} {L0 L : List Bool} {i k i' k' : Nat} (h : PassD a L0 L i k) {j : Nat} (hr : L.getD j false = true) : PassD a L0 (L.set j false) i' k' := by
 have := cntB_drop hr
 rcases h with h | ⟨rfl, h⟩
 ·exact .inl (by omega)
 ·exact .inl this
theorem PassD.less {a : Aut} {L0 L : List Bool} (h : PassD a L0 L a.nodes.length 0) {i k : Nat} (hi : i < a.nodes.length) (hk : k < a.nodes.length) (hr : relF L i k = true) (hf : follB a L i k = false) : cntB L < cntB L0 := by
 rcases h with h | ⟨rfl, h⟩
 ·exact h
 ·rw [h i k hi hk (.inl hi) hr] at hf; cases hf
theorem RowsM.put {w : World} {base g n c : Nat} {L : List Bool} (h : RowsM w base g n c L) (j : Nat) (b : Bool) : RowsM (w.setCell ⟨g, j, none⟩ (.bool b)) base g n c (L.set j b) := by
 have := (h.own.stored j (.bool b)).1
 exact ⟨by rw [bcells, List.map_set]; exact this⟩
theorem RowsM.row {w : World} {base g n c : Nat} {L : List Bool} (h : RowsM w base g n c L) {i : Nat} (hi : i < n) (hn : n ≤ 256) : Sl w w.1.size 1 (some ⟨g, i * 256, none⟩) n 256 (bcells (rowD L n i)) := by
 refine ⟨by simp [bcells, rowD], hn, by unfold maxLen; omega, fun e => (by cases e), .inr ⟨g, i * 256, rfl, (h.own.lt g rfl).2, fun k v hk => ?_⟩⟩
 have hkn : k < n := by
  have := (gB.1 hk).1
  simpa [bcells, rowD] using this
 rw [h.cell hi (by omega)]
 rw [← hk]
 simp [bcells, rowD, List.getElem?_range hkn]
end Go.Proofs.YtiebpncpdbnelaaGreatDoor
