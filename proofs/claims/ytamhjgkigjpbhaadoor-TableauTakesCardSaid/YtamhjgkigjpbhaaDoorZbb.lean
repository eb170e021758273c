/- Texts that stand one behind the other, in one file. -/
import Derived.Test.YtamhjgkigjpbhaaDoorZad
import Derived.Test.YtamhjgkigjpbhaaDoorZba
import Derived.Test.YtamhjgkigjpbhaaDoorZac

/- The walk of layer 30's reference: Check. -/
namespace Go.Proofs.YtamhjgkigjpbhaaDoor
open Go.RowKit

/-- A node, read. -/
theorem rd_aut {w : World} {B : Nat} {a : Aut} {Ai An : Option Addr} {ni ci nn cn : Nat} (h : AutRd w B a Ai ni ci An nn cn) {k : Nat} (hk : k < nn) :
    ∃ b off x A c, An = some ⟨b, off, none⟩ ∧ b < B ∧ a.nodes[k]? = some x ∧ w.cell? ⟨b, off + k * 4, none⟩ = some (.int .u64 (x.need : Int)) ∧ w.cell? ⟨b, off + k * 4 + 1, none⟩ = some (.int .u64 (x.ban : Int)) ∧
      w.cell? ⟨b, off + k * 4 + 2, none⟩ = some (.int .u64 (x.inn : Int)) ∧ w.cell? ⟨b, off + k * 4 + 3, none⟩ = some (.slice A x.to.length c) ∧ Sl w B 1 A x.to.length c (icells x.to) := by
  obtain ⟨xs, h1, h2⟩ := h.nodes
  have hkl : k < a.nodes.length := by rw [← h.enn]; exact hk
  obtain ⟨A, c, e0, e1, e2, e3, t⟩ := h2 k _ (List.getElem?_eq_getElem hkl)
  rcases h1.rd with h0 | ⟨b, off, hA, hlt, hc⟩
  · rw [h0] at e0; simp at e0
  · exact ⟨b, off, _, A, c, hA, hlt, List.getElem?_eq_getElem hkl, hc _ _ e0, by rw [Nat.add_assoc]; exact hc _ _ e1, by rw [Nat.add_assoc]; exact hc _ _ e2, by rw [Nat.add_assoc]; exact hc _ _ e3, t⟩
theorem rd_intS {w : World} {B : Nat} {A : Option Addr} {n c : Nat} {l : List Int} (h : Sl w B 1 A n c (icells l)) {k : Nat} (hk : k < l.length) : ∃ b off, A = some ⟨b, off, none⟩ ∧ b < B ∧ w.cell? ⟨b, off + k, none⟩ = some (.int .i64 l[k]) :=
  h.rd.at_ (j := k) (u := .int .i64 l[k]) (by simp [icells, hk])
theorem below_dd {B : Nat} {w W0 : World} (h : Below B w W0) (n m : Nat) : Below B w ((W0.drewN n).drewN m) := ⟨h.os, h.tape, h.output, h.size, h.block⟩
theorem shr_ne (x t : Nat) : ((x : Int) / 2 ^ t != 0) = !(x >>> t == 0) := by
  rw [Nat.shiftRight_eq_div_pow]
  have h : ((x : Int) / 2 ^ t) = ((x / 2 ^ t : Nat) : Int) := by simp
  rw [h]
  by_cases h0 : x / 2 ^ t = 0
  · simp [h0]
  · have h1 : ((x / 2 ^ t : Nat) : Int) ≠ 0 := by omega
    rw [bne_iff_ne.2 h1, beq_eq_false_iff_ne.2 h0]; rfl
theorem box3A {w : World} {b t : Nat} {p q r : Value} (h : w.heap[b]? = some (.cells #[p, q, r] t (0, 0))) : w.cell? ⟨b, 0, none⟩ = some p ∧ w.cell? ⟨b, 1, none⟩ = some q ∧ w.cell? ⟨b, 2, none⟩ = some r := by
  refine ⟨?_, ?_, ?_⟩ <;> (rw [cell_of_row _ _ _ _ _ (0, 0) h]; rfl)
theorem isNd_no {n : Nat} {i : Int} (h : ¬ isNd n i = true) : i < 0 ∨ (0 ≤ i ∧ (n : Int) ≤ i) := by
  rw [isNd_iff] at h; omega
set_option maxHeartbeats 8000000 in
set_option maxRecDepth 100000 in
theorem chkR_any (a : Aut) (Ai : Option Addr) (ni ci : Nat) (An : Option Addr) (nn cn : Nat) (w : World) (B : Nat) (h : AutRd w B a Ai ni ci An nn cn) (hB : B ≤ w.heap.size) :
    Calls Tryd.prog 15 #[.agg #[.int .i64 a.sets, .slice Ai ni ci, .slice An nn cn]] w (Num w (chkA a)) := by
  have hb0 : Below w.heap.size w (w.alloc (.cells #[.int .i64 a.sets, .slice Ai ni ci, .slice An nn cn] 28)) := (Below.refl _ _).alloc (Nat.le_refl _) _
  have hx0 := heap_alloc_new w (.cells #[.int .i64 a.sets, .slice Ai ni ci, .slice An nn cn] 28)
  have hz0 : (w.alloc (.cells #[.int .i64 a.sets, .slice Ai ni ci, .slice An nn cn] 28)).heap.size = w.heap.size + 1 := by simp
  obtain ⟨W0, hW0⟩ : ∃ W0, w.alloc (.cells #[.int .i64 a.sets, .slice Ai ni ci, .slice An nn cn] 28) = W0 := ⟨_, rfl⟩
  rw [hW0] at hb0 hx0 hz0
  have HW0 := Lib.hid hW0
  obtain ⟨k0, k1, k2⟩ := box3A hx0
  have hrd := h.below hb0 hB
  have hni := h.eni
  have hnn := h.enn
  have hci := h.init.cap
  have hmi := h.init.max
  obtain ⟨xsN, hsN, -⟩ := h.nodes
  have hcn := hsN.cap
  have hmn := hsN.max
  have hBs : B ≤ W0.heap.size := by omega
  obtain ⟨s, hs⟩ : ∃ s, a.sets = s := ⟨_, rfl⟩
  have HS := Lib.hid hs
  rw [hs] at HW0 k0
  clear hsN
  unfold maxLen at hmi hmn
  have HR := Lib.hid hrd
  have HNI := Lib.hid hni
  have HNN := Lib.hid hnn
  have gmi : (ni : Int) ≤ 9223372036854775807 := by omega
  clear hrd hW0 h hni hnn
  rw [hs]
  by_cases h256 : 256 < nn
  · have g256 : (256 : Int) < (nn : Int) := by omega
    have HE : Hid (chkA a = 11) := Lib.hid (by unfold chkA; rw [if_pos (.inl (by rw [← HNN.out]; exact h256))])
    clear hs
    go_enter Tryd.func15, Tryd.ntmps15
    go_wp2_with fail
    rw [HW0.out]
    go_wp2_with fail
    go_ret
    exact ⟨by rw [HE.out]; rfl, hb0⟩
  · have g256 : ¬ (256 : Int) < (nn : Int) := by omega
    by_cases h16 : 16 < s
    · have HE : Hid (chkA a = 11) := Lib.hid (by unfold chkA; rw [if_pos (.inr (by rw [hs]; exact h16))])
      clear hs
      go_enter Tryd.func15, Tryd.ntmps15
      go_wp2_with fail
      rw [HW0.out]
      go_wp2_with fail
      go_ret
      exact ⟨by rw [HE.out]; rfl, hb0⟩
    · have he1 : ¬ (256 < a.nodes.length ∨ 16 < a.sets) := by rw [← HNN.out, hs]; omega
      by_cases hs0 : s < 0
      · have HE : Hid (chkA a = 10) := Lib.hid (by unfold chkA; rw [if_neg he1, if_pos (by rw [hs]; exact hs0)])
        clear hs he1
        go_enter Tryd.func15, Tryd.ntmps15
        go_wp2_with fail
        rw [HW0.out]
        go_wp2_with fail
        go_ret
        exact ⟨by rw [HE.out]; rfl, hb0⟩
      · have he2 : ¬ a.sets < 0 := by rw [hs]; exact hs0
        have hC0 : chkA a = if a.init.all (isNd a.nodes.length) = true then chkNds a.nodes.length a.sets a.nodes else 10 := by
          unfold chkA
          rw [if_neg he1, if_neg he2]
        have HC := Lib.hid hC0
        clear hC0
        clear hs he1 he2
        go_enter Tryd.func15, Tryd.ntmps15
        go_wp2_with fail
        rw [HW0.out]
        go_loopw [3] (fun v wr => ∃ i m : Nat, i ≤ ni ∧ v = .int .i64 i ∧ wr = W0.drewN m ∧ Hid (∀ x ∈ a.init.take i, isNd a.nodes.length x = true)) (fun v _ => ni - (intOf v).toNat)
        case atStart => exact ⟨0, 0, by omega, rfl, rfl, Lib.hid (fun x hx => by simp at hx)⟩
        case round =>
          obtain ⟨i, m, hi, rfl, rfl, HQ⟩ := hrel
          by_cases hlt : i < ni
          · have hlt' : (i : Int) < (ni : Int) := by omega
            have hil : i < a.init.length := by rw [← HNI.out]; exact hlt
            obtain ⟨b, o, rfl, hbl, hc⟩ := rd_intS HR.out.init hil
            have hq2 := all_takeS (P := fun x => isNd a.nodes.length x = true) hil HQ.out
            have wi : IntKind.i64.wrap ((i : Int) + 1) = i + 1 := by rw [IntKind.wrap_i64]; omega
            have hnot : ¬ isNd a.nodes.length a.init[i] = true → chkA a = 10 := fun hx => by
              rw [HC.out, if_neg (fun h => hx (List.all_eq_true.1 h _ (List.getElem_mem hil)))]
            generalize a.init[i] = x at *
            have HQ2 := Lib.hid hq2
            have HNO := Lib.hid hnot
            clear hq2 hnot
            by_cases hn : isNd a.nodes.length x = true
            · have hx := isNd_iff.1 hn
              rw [← HNN.out] at hx
              obtain ⟨hx1, hx2⟩ := hx
              have d1 : decide (x < 0) = false := by simp; omega
              have d2 : decide ((nn : Int) ≤ x) = false := by simp; omega
              have HN := Lib.hid hn
              clear hn
              go_wp2_with fail
              go_quiet (fail)
              go_wp2
              go_roundw
              case rel => exact ⟨i + 1, _, by omega, by go_num, by first | rfl | rw [World.drewN_drewN], Lib.hid (HQ2.out HN.out)⟩
              case measure => simp [intOf]; omega
            · have HE := Lib.hid (HNO.out hn)
              have hx := isNd_no hn
              rw [← HNN.out] at hx
              clear hn
              rcases hx with hx | ⟨hx, hx2⟩
              · have d1 : decide (x < 0) = true := by simp; omega
                go_wp2_with fail
                go_quiet (fail)
                go_wp2
                go_ret
                exact ⟨by rw [HE.out]; rfl, below_dd hb0 _ _⟩
              · have d1 : decide (x < 0) = false := by simp; omega
                have d2 : decide ((nn : Int) ≤ x) = true := by simp; omega
                go_wp2_with fail
                go_quiet (fail)
                go_wp2
                go_ret
                exact ⟨by rw [HE.out]; rfl, below_dd hb0 _ _⟩
          · have hin : i = ni := by omega
            subst hin
            have hall : a.init.all (isNd a.nodes.length) = true := List.all_eq_true.2 (fun x hx => HQ.out x (by rw [HNI.out, List.take_length]; exact hx))
            have hc2 : chkA a = chkNds a.nodes.length a.sets a.nodes := by rw [HC.out, if_pos hall]
            have HC2 := Lib.hid hc2
            clear hall hc2
            go_wp2_with fail
            go_loopw [4] (fun v wr => ∃ i m : Nat, i ≤ nn ∧ v = .int .i64 i ∧ wr = W0.drewN m ∧ Hid (∀ x ∈ a.nodes.take i, chkNd a.nodes.length a.sets x = 0)) (fun v _ => nn - (intOf v).toNat)
            case atStart => exact ⟨0, _, by omega, rfl, rfl, Lib.hid (fun x hx => by simp at hx)⟩
            case round =>
              clear HQ HC
              obtain ⟨i, m, hi, rfl, rfl, HQ⟩ := hrel
              by_cases hlt : i < nn
              · have hlt' : (i : Int) < (nn : Int) := by omega
                have hi0 : (0 : Int) ≤ (i : Int) := by omega
                obtain ⟨b, o, x, At, ct, rfl, hbl, hx, c0, c1, c2, c3, hst⟩ := rd_aut HR.out hlt
                have hil : i < a.nodes.length := by rw [← HNN.out]; exact hlt
                have hxe : a.nodes[i] = x := by
                  rw [List.getElem?_eq_getElem hil] at hx; exact Option.some.inj hx
                have hq2 : chkNd a.nodes.length a.sets x = 0 → ∀ y ∈ a.nodes.take (i + 1), chkNd a.nodes.length a.sets y = 0 := fun h => all_takeS (P := fun x => chkNd a.nodes.length a.sets x = 0) hil HQ.out (by rw [hxe]; exact h)
                have hbad : chkNd a.nodes.length a.sets x ≠ 0 → chkA a = chkNd a.nodes.length a.sets x := fun h => by
                  rw [HC2.out, chkNds_at hil HQ.out (by rw [hxe]; exact h), hxe]
                have hmt := hst.max
                have hct := hst.cap
                unfold maxLen at hmt
                have gmt : (x.to.length : Int) ≤ 9223372036854775807 := by omega
                have wi : IntKind.i64.wrap ((i : Int) + 1) = i + 1 := by rw [IntKind.wrap_i64]; omega
                have HQ2 := Lib.hid hq2
                have HBAD := Lib.hid hbad
                have HST := Lib.hid hst
                clear hq2 hbad hst hx hxe c0 c1
                go_wp2_with fail
                go_loopw [5] (fun v wr => ∃ j m : Nat, j ≤ x.to.length ∧ v = .int .i64 j ∧ wr = W0.drewN m ∧ Hid (∀ t ∈ x.to.take j, isNd a.nodes.length t = true)) (fun v _ => x.to.length - (intOf v).toNat)
                case atStart => exact ⟨0, _, by omega, rfl, rfl, Lib.hid (fun x hx => by simp at hx)⟩
                case round =>
                  obtain ⟨j, m', hj, rfl, rfl, HJ⟩ := hrel
                  by_cases hjl : j < x.to.length
                  · have hjl' : (j : Int) < (x.to.length : Int) := by omega
                    have hj0 : (0 : Int) ≤ (j : Int) := by omega
                    obtain ⟨bt, ot, rfl, hbt, hct2⟩ := rd_intS HST.out hjl
                    have hq3 := all_takeS (P := fun x => isNd a.nodes.length x = true) hjl HJ.out
                    have wj : IntKind.i64.wrap ((j : Int) + 1) = j + 1 := by rw [IntKind.wrap_i64]; omega
                    have hnot : ¬ isNd a.nodes.length x.to[j] = true → chkNd a.nodes.length a.sets x = 10 := fun hx => by
                      unfold chkNd
                      rw [if_neg (fun h => hx (List.all_eq_true.1 h _ (List.getElem_mem hjl)))]
                    generalize x.to[j] = y at *
                    have HQ3 := Lib.hid hq3
                    have HNO := Lib.hid hnot
                    clear hq3 hnot
                    by_cases hn : isNd a.nodes.length y = true
                    · have hx := isNd_iff.1 hn
                      rw [← HNN.out] at hx
                      obtain ⟨hx1, hx2⟩ := hx
                      have d1 : decide (y < 0) = false := by simp; omega
                      have d2 : decide ((nn : Int) ≤ y) = false := by simp; omega
                      have HN := Lib.hid hn
                      clear hn
                      go_wp2_with fail
                      go_quiet (fail)
                      go_wp2
                      go_roundw
                      case rel => exact ⟨j + 1, _, by omega, by go_num, by first | rfl | rw [World.drewN_drewN], Lib.hid (HQ3.out HN.out)⟩
                      case measure => simp [intOf]; omega
                    · have hE10 := HNO.out hn
                      have HE : Hid (chkA a = 10) := Lib.hid (by rw [HBAD.out (by rw [hE10]; decide), hE10])
                      have hx := isNd_no hn
                      rw [← HNN.out] at hx
                      clear hn hE10
                      rcases hx with hx | ⟨hx, hx2⟩
                      · have d1 : decide (y < 0) = true := by simp; omega
                        go_wp2_with fail
                        go_quiet (fail)
                        go_wp2
                        go_ret
                        exact ⟨by rw [HE.out]; rfl, below_dd hb0 _ _⟩
                      · have d1 : decide (y < 0) = false := by simp; omega
                        have d2 : decide ((nn : Int) ≤ y) = true := by simp; omega
                        go_wp2_with fail
                        go_quiet (fail)
                        go_wp2
                        go_ret
                        exact ⟨by rw [HE.out]; rfl, below_dd hb0 _ _⟩
                  · have hjn : j = x.to.length := by omega
                    subst hjn
                    have hall : x.to.all (isNd a.nodes.length) = true := List.all_eq_true.2 (fun t ht => HJ.out t (by rw [List.take_length]; exact ht))
                    have hcn : chkNd a.nodes.length a.sets x = if x.inn >>> s.toNat = 0 then 0 else 3 := by
                      unfold chkNd
                      rw [if_pos hall, HS.out]
                    obtain ⟨t, ht⟩ : ∃ t : Nat, s = (t : Int) := ⟨s.toNat, by omega⟩
                    subst ht
                    have hw64 : IntKind.u64.wrap (t : Int) = t := by rw [IntKind.wrap_u64]; omega
                    have hsh := shr_ne x.inn t
                    rw [show ((t : Int)).toNat = t from by simp] at hcn
                    by_cases hz : x.inn >>> t = 0
                    · rw [show (x.inn >>> t == 0) = true from by simp [hz]] at hsh
                      have hsh2 : ((x.inn : Int) / 2 ^ t != 0) = false := hsh
                      have HE := Lib.hid (HQ2.out (by rw [hcn, if_pos hz]))
                      clear hz hsh hcn hall
                      go_wp2_with fail
                      go_quiet (fail)
                      go_wp2
                      go_roundw
                      case rel => exact ⟨i + 1, _, by omega, by go_num, by first | rfl | rw [World.drewN_drewN], HE⟩
                      case measure => simp [intOf]; omega
                    · rw [show (x.inn >>> t == 0) = false from by simp [hz]] at hsh
                      have hsh2 : ((x.inn : Int) / 2 ^ t != 0) = true := hsh
                      have h3 : chkNd a.nodes.length a.sets x = 3 := by rw [hcn, if_neg hz]
                      have HE : Hid (chkA a = 3) := Lib.hid (by rw [HBAD.out (by rw [h3]; decide), h3])
                      clear hz hsh hcn hall h3
                      go_wp2_with fail
                      go_quiet (fail)
                      go_wp2
                      go_ret
                      exact ⟨by rw [HE.out]; rfl, below_dd hb0 _ _⟩
              · have hin : i = nn := by omega
                subst hin
                have HE : Hid (chkA a = 0) := Lib.hid (by rw [HC2.out]; exact chkNds_ok (fun x hx => HQ.out x (by rw [HNN.out, List.take_length]; exact hx)))
                go_wp2_with fail
                go_ret
                exact ⟨by rw [HE.out]; rfl, below_dd hb0 _ 0⟩
end Go.Proofs.YtamhjgkigjpbhaaDoor

/- The walks of layer 30's reference: Reads, in. -/
namespace Go.Proofs.YtamhjgkigjpbhaaDoor
open Go.RowKit

theorem and_natA {x y : Nat} (hx : x < 2 ^ 64) (hy : y < 2 ^ 64) : bits .and .u64 (x : Int) (y : Int) = ((x &&& y : Nat) : Int) := by
  have hand : x &&& y < 2 ^ 64 := Nat.lt_of_le_of_lt Nat.and_le_left hx
  show IntKind.u64.wrap ((BitVec.ofInt 64 (x : Int) &&& BitVec.ofInt 64 (y : Int)).toNat : Int) = _
  rw [BitVec.toNat_and, BitVec.ofInt_natCast, BitVec.toNat_ofNat, BitVec.ofInt_natCast, BitVec.toNat_ofNat, Nat.mod_eq_of_lt hx, Nat.mod_eq_of_lt hy, IntKind.wrap_u64]
  omega
set_option maxHeartbeats 4000000 in
set_option maxRecDepth 100000 in
theorem reads30_any (x : ANd) (A : Option Addr) (n c : Nat) (S : Nat) (w : World) (h1 : x.need < 2 ^ 64) (h2 : x.ban < 2 ^ 64) (h3 : S < 2 ^ 64) :
    Calls Tryd.prog 28 #[.agg #[.int .u64 (x.need : Int), .int .u64 (x.ban : Int), .int .u64 (x.inn : Int), .slice A n c], .int .u64 (S : Int)] w (Tru w (rdsB x S)) := by
  have hb0 : Below w.heap.size w (w.alloc (.cells #[.int .u64 (x.need : Int), .int .u64 (x.ban : Int), .int .u64 (x.inn : Int), .slice A n c] 43)) := (Below.refl _ _).alloc (Nat.le_refl _) _
  have a1 := and_natA h1 h3
  have a2 := and_natA h2 h3
  have hr : rdsB x S = (decide (x.need &&& S = x.need) && decide (x.ban &&& S = 0)) := rfl
  generalize x.need &&& S = p at *
  generalize x.ban &&& S = q at *
  by_cases e1 : p = x.need
  · have m1 : ((p : Int) == (x.need : Int)) = true := by simp [e1]
    rw [decide_eq_true e1, Bool.true_and] at hr
    have HR := Lib.hid hr
    clear hr e1
    by_cases e2 : q = 0
    · have m2 : ((q : Int) == 0) = true := by simp [e2]
      have HE := Lib.hid e2
      clear e2
      go_enter Tryd.func28, Tryd.ntmps28
      go_wp2_with fail
      go_ret
      exact ⟨by rw [HR.out, decide_eq_true HE.out]; rfl, hb0⟩
    · have m2 : ((q : Int) == 0) = false := beq_eq_false_iff_ne.2 (by omega)
      have HE := Lib.hid e2
      clear e2
      go_enter Tryd.func28, Tryd.ntmps28
      go_wp2_with fail
      go_ret
      exact ⟨by rw [HR.out, decide_eq_false HE.out]; rfl, hb0⟩
  · have m1 : ((p : Int) == (x.need : Int)) = false := beq_eq_false_iff_ne.2 (by omega)
    rw [decide_eq_false e1, Bool.false_and] at hr
    have HR := Lib.hid hr
    clear hr e1
    go_enter Tryd.func28, Tryd.ntmps28
    go_wp2_with fail
    go_ret
    exact ⟨by rw [HR.out]; rfl, hb0⟩
theorem shr_bit (x t : Nat) : (((x : Int) / 2 ^ t) % 2 == 1) = x.testBit t := by
  have h : ((x : Int) / 2 ^ t) = ((x / 2 ^ t : Nat) : Int) := by simp
  rw [h, Nat.testBit_eq_decide_div_mod_eq]
  by_cases h0 : x / 2 ^ t % 2 = 1
  · rw [decide_eq_true h0]; exact beq_iff_eq.2 (by omega)
  · rw [decide_eq_false h0]; exact beq_eq_false_iff_ne.2 (by omega)
set_option maxHeartbeats 4000000 in
set_option maxRecDepth 100000 in
theorem in30_any (a : Aut) (Ai : Option Addr) (ni ci : Nat) (An : Option Addr) (nn cn : Nat) (k t : Nat) (w : World) (B : Nat) (h : AutRd w B a Ai ni ci An nn cn) (hB : B ≤ w.heap.size) (hk : k < nn) (ht : t ≤ 64) (_hnn : nn ≤ 1000000) :
    Calls Tryd.prog 66 #[.agg #[.int .i64 a.sets, .slice Ai ni ci, .slice An nn cn], .int .i64 (k : Int), .int .i64 (t : Int)] w (Tru w ((a.at k).inn.testBit t)) := by
  obtain ⟨s, hs⟩ : ∃ s, a.sets = s := ⟨_, rfl⟩
  rw [hs]
  have hb0 : Below w.heap.size w (w.alloc (.cells #[.int .i64 s, .slice Ai ni ci, .slice An nn cn] 28)) := (Below.refl _ _).alloc (Nat.le_refl _) _
  obtain ⟨b, o, x, A, c, rfl, hbb, hx, c0, c1, c2, c3, -⟩ := rd_aut h hk
  have hax : a.at k = x := by unfold Aut.at; rw [List.getD_eq_getElem?_getD, hx]; rfl
  rw [hax]
  have hbw : b < w.heap.size := by omega
  have hk' : (k : Int) < (nn : Int) := by omega
  have hk0 : (0 : Int) ≤ (k : Int) := by omega
  have hw64 : IntKind.u64.wrap (t : Int) = t := by rw [IntKind.wrap_u64]; omega
  have hsb := shr_bit x.inn t
  have HSB := Lib.hid hsb
  clear hx hax hsb h hs c0 c1 c3
  go_enter Tryd.func66, Tryd.ntmps66
  go_wp2_with fail
  go_ret
  exact ⟨by rw [← HSB.out]; rfl, hb0⟩
end Go.Proofs.YtamhjgkigjpbhaaDoor

/- The graph of the edges that stay, row by row; plain. -/
namespace Go.Proofs.YtamhjgkigjpbhaaDoor

def keepE (z : List Bool) (a : Nat) (e : Nd) : Bool := z.getD a false && hasB z e.op
/-- The rows ahead of a. -/
def withinR (E : List (List Nd)) (z : List Bool) (a : Nat) : List (List Nd) := (List.range E.length).map fun i => if i < a then (E.getD i []).filter (keepE z i) else []
theorem withinR_len (E : List (List Nd)) (z : List Bool) (a : Nat) : (withinR E z a).length = E.length := by simp [withinR]
theorem withinR_zero (E : List (List Nd)) (z : List Bool) : withinR E z 0 = List.replicate E.length [] := by
  refine List.ext_getElem (by simp [withinR]) (fun i h1 h2 => by simp [withinR])
theorem withinR_succ {E : List (List Nd)} {z : List Bool} {a : Nat} (ha : a < E.length) : withinR E z (a + 1) = (withinR E z a).set a (E[a].filter (keepE z a)) := by
  refine List.ext_getElem (by simp [withinR]) (fun i h1 h2 => ?_)
  rw [List.getElem_set]
  simp only [withinR, List.getElem_map, List.getElem_range]
  by_cases e : a = i
  · subst e; simp [List.getD, ha]
  · rw [if_neg e]
    by_cases e2 : i < a
    · rw [if_pos e2, if_pos (by omega)]
    · rw [if_neg e2, if_neg (by omega)]
theorem withinR_at {E : List (List Nd)} {z : List Bool} {a : Nat} (_ha : a < E.length) : withinR E z a = (withinR E z a).set a [] := by
  refine List.ext_getElem (by simp) (fun i h1 h2 => ?_)
  rw [List.getElem_set]
  split
  · rename_i e; subst e; simp [withinR]
  · rfl
theorem withinR_full (E : List (List Nd)) (z : List Bool) : withinR E z E.length = withinE E z := by
  refine List.ext_getElem (by simp [withinR, withinE]) (fun i h1 h2 => ?_)
  have hi : i < E.length := by simpa [withinR] using h1
  simp only [withinR, withinE, List.getElem_map, List.getElem_range, if_pos hi]
  cases hz : z.getD i false
  · rw [if_neg (by decide)]
    rw [List.filter_eq_nil_iff]
    intro e _
    rw [keepE, hz, Bool.false_and]; decide
  · rw [if_pos rfl]
    refine List.filter_congr (fun e _ => ?_)
    rw [keepE, hz, Bool.true_and]
theorem filter_snoc {l : List Nd} {m : Nat} (p : Nd → Bool) (hm : m < l.length) : (l.take (m + 1)).filter p = (l.take m).filter p ++ if p l[m] = true then [l[m]] else [] := by
  rw [take_snoc l m hm, List.filter_append]
  congr 1
  rw [List.filter_cons, List.filter_nil]
end Go.Proofs.YtamhjgkigjpbhaaDoor
