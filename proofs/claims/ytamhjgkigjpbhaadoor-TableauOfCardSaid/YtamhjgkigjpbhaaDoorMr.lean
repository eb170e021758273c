/- Texts of one kind, in one file. -/
import Derived.Test.YtamhjgkigjpbhaaDoorMn
import Derived.Test.YtamhjgkigjpbhaaDoorEqI29
import Derived.Test.YtamhjgkigjpbhaaDoorMe
import Derived.Test.YtamhjgkigjpbhaaDoorMq
import Derived.Test.YtamhjgkigjpbhaaDoorTbZ
import Derived.Test.YtamhjgkigjpbhaaDoorAr1
import Derived.Test.YtamhjgkigjpbhaaDoorExtW
import Derived.Deep.Cut
import Derived.Deep.DeepCutAuto
import Derived.Test.YtamhjgkigjpbhaaDoorMo
import Derived.Test.YtamhjgkigjpbhaaDoorTbL2
import Derived.Test.YtamhjgkigjpbhaaDoorMk
import Derived.Test.YtamhjgkigjpbhaaDoorR23c

/- (XRf1) The walk of layer 29's reference: find. -/
namespace Go.Proofs.YtamhjgkigjpbhaaDoor
open Go.RowKit Go.Maps

theorem below_drewU (w : World) (n : Nat) : Below w.heap.size w (w.drewN n) := have h := Below.refl w.heap.size w; ⟨h.os, h.tape, h.output, h.size, h.block⟩
theorem said_tru {w : World} {b : Bool} {en : Ending} {w' : World} (h : Said w b en w') : Tru w b en w' := by
  obtain ⟨e, n, rfl⟩ := h
  exact ⟨e, below_drewU w n⟩
/-- The number of a cover; -1: it is not there. -/
def findN (L : List Cov) (d : Cov) : Int := if d ∈ L then (L.idxOf d : Nat) else -1
theorem natI_inj' {l m : List Nat} (h : natI l = natI m) : l = m := by
  have e : ∀ l : List Nat, (natI l).map Int.toNat = l := fun l => by
    unfold natI
    rw [List.map_map]
    exact (List.map_congr_left (fun x _ => by simp)).trans (List.map_id l)
  rw [← e l, ← e m, h]
theorem cov_eq {n : Nat} {c d : Cov} (hc : CovOk n c) (hd : CovOk n d) (h1 : c.1 = d.1) (h2 : c.2.1 = d.2.1) (h3 : natI (onL c.2.2.1) = natI (onL d.2.2.1)) (h4 : natI (onL c.2.2.2) = natI (onL d.2.2.2)) : c = d := by
  obtain ⟨a, b, x, y⟩ := c
  obtain ⟨a', b', x', y'⟩ := d
  have e3 : x = x' := onL_inj (hc.l1.trans hd.l1.symm) (natI_inj' h3)
  have e4 : y = y' := onL_inj (hc.l2.trans hd.l2.symm) (natI_inj' h4)
  simp only at h1 h2
  rw [h1, h2, e3, e4]
theorem find_at {L : List Cov} {d : Cov} {i : Nat} (hi : i < L.length) (h : d ∉ L.take i) (he : L[i] = d) : findN L d = (i : Nat) := by
  have hm : d ∈ L := by rw [← he]; exact List.getElem_mem hi
  unfold findN
  rw [if_pos hm]
  congr 1
  have e : L = L.take i ++ L.drop i := (List.take_append_drop i L).symm
  rw [e, List.idxOf_append, if_neg h, List.drop_eq_getElem_cons hi, he]
  simp
  omega
set_option maxHeartbeats 8000000 in
set_option maxRecDepth 100000 in
theorem findR_any (N : Nat) (A : Option Addr) (n c : Nat) (xs : List Value) (L : List Cov) (d : Cov) (E1 : Option Addr) (e1 : Nat) (E2 : Option Addr) (e2 : Nat) (w : World) (hs : Sl w w.heap.size 4 A n c xs) (hc : CovsAt w xs L) (hn : n = L.length)
    (h1 : TSl w 3 E1 (onL d.2.2.1).length e1 (icells (natI (onL d.2.2.1)))) (h2 : TSl w 3 E2 (onL d.2.2.2).length e2 (icells (natI (onL d.2.2.2)))) (hok : ∀ x ∈ L, CovOk N x) (hd : CovOk N d) (hN : N ≤ 1000) (hL : n ≤ 100000) :
    Calls Tryd.prog 37 #[.slice A n c, .agg #[.int .u64 (d.1 : Int), .int .u64 (d.2.1 : Int), .slice E1 (onL d.2.2.1).length e1, .slice E2 (onL d.2.2.2).length e2]] w (Num w (findN L d)) := by
  have hb0 : Below w.heap.size w (w.alloc (.cells #[.int .u64 (d.1 : Int), .int .u64 (d.2.1 : Int), .slice E1 (onL d.2.2.1).length e1, .slice E2 (onL d.2.2.2).length e2] 62)) := (Below.refl _ _).alloc (Nat.le_refl _) _
  have hx0 := heap_alloc_new w (.cells #[.int .u64 (d.1 : Int), .int .u64 (d.2.1 : Int), .slice E1 (onL d.2.2.1).length e1, .slice E2 (onL d.2.2.2).length e2] 62)
  have hz0 : (w.alloc (.cells #[.int .u64 (d.1 : Int), .int .u64 (d.2.1 : Int), .slice E1 (onL d.2.2.1).length e1, .slice E2 (onL d.2.2.2).length e2] 62)).heap.size = w.heap.size + 1 := by simp
  obtain ⟨W0, hW0⟩ : ∃ W0, w.alloc (.cells #[.int .u64 (d.1 : Int), .int .u64 (d.2.1 : Int), .slice E1 (onL d.2.2.1).length e1, .slice E2 (onL d.2.2.2).length e2] 62) = W0 := ⟨_, rfl⟩
  rw [hW0] at hb0 hx0 hz0
  have HW0 := Lib.hid hW0
  have HS := Lib.hid hs
  have HC := Lib.hid hc
  have H1 := Lib.hid h1
  have H2 := Lib.hid h2
  have HOK := Lib.hid hok
  have HD := Lib.hid hd
  have HX0 := Lib.hid hx0
  have hlb1 : (onL d.2.2.1).length ≤ 1000 := Nat.le_trans (onL_len _) (by rw [hd.l1]; omega)
  have hlb2 : (onL d.2.2.2).length ≤ 1000 := Nat.le_trans (onL_len _) (by rw [hd.l2]; omega)
  subst hn
  clear hW0 hs hc h1 h2 hok hd hx0
  go_enter Tryd.func37, Tryd.ntmps37
  go_wp2_with fail
  rw [HW0.out]
  go_loopw [5] (fun v wr => ∃ i : Nat, i ≤ L.length ∧ v = .int .i64 i ∧ Below (w.heap.size + 1) W0 wr ∧ Hid (d ∉ L.take i)) (fun v _ => L.length - (intOf v).toNat)
  case atStart => exact ⟨0, by omega, rfl, Below.refl _ _, Lib.hid (by simp)⟩
  case round =>
    obtain ⟨i, hi, rfl, hbr, HQ⟩ := hrel
    have hzr : w.heap.size + 1 ≤ wr.heap.size := by have := hbr.size; omega
    by_cases hlt : i < L.length
    · have hlt' : (i : Int) < (L.length : Int) := by omega
      have hi0 : (0 : Int) ≤ (i : Int) := by omega
      have hbw : Below w.heap.size w wr := hb0.trans (hbr.mono (by omega))
      obtain ⟨bb, oo, D1, d1, D2, d2, rfl, hbl, p0, p1, p2, p3, t1, t2⟩ := rd_cov (HS.out.below hbw (Nat.le_refl _)).rd (HC.out.keep (Tch.of_below hbw) (spares_new w _)) (List.getElem?_eq_getElem hlt)
      obtain ⟨q0, q1, q2, q3⟩ : wr.cell? ⟨w.heap.size, 0, none⟩ = some (.int .u64 (d.1 : Int)) ∧ wr.cell? ⟨w.heap.size, 1, none⟩ = some (.int .u64 (d.2.1 : Int)) ∧ wr.cell? ⟨w.heap.size, 2, none⟩ = some (.slice E1 (onL d.2.2.1).length e1) ∧ wr.cell? ⟨w.heap.size, 3, none⟩ = some (.slice E2 (onL d.2.2.2).length e2) := by
        have h := (hbr.block w.heap.size (by omega)).trans HX0.out
        refine ⟨?_, ?_, ?_, ?_⟩ <;> (rw [cell_of_row _ _ _ _ _ (0, 0) h]; rfl)
      have wi : IntKind.i64.wrap ((i : Int) + 1) = i + 1 := by rw [IntKind.wrap_i64]; omega
      have hokx := HOK.out _ (List.getElem_mem hlt)
      have hfa := fun h => find_at hlt HQ.out h
      have hsn : L[i] ≠ d → d ∉ L.take (i + 1) := fun h hm => by
        rw [take_snoc L i hlt] at hm
        rcases List.mem_append.1 hm with hm | hm
        · exact HQ.out hm
        · rw [List.mem_singleton] at hm; exact h hm.symm
      generalize L[i] = x at *
      have hxb1 : (onL x.2.2.1).length ≤ 1000 := Nat.le_trans (onL_len _) (by rw [hokx.l1]; omega)
      have HT1 := Lib.hid t1
      have HT2 := Lib.hid t2
      have HFA := Lib.hid hfa
      have HSN := Lib.hid hsn
      have HOX := Lib.hid hokx
      have hwB : w.heap.size ≤ wr.heap.size := hbw.size
      have hbd : Below wr.heap.size wr wr.drew := Below.drew (Below.refl _ _)
      obtain ⟨wd, hwd⟩ : ∃ wd, wr.drew = wd := ⟨_, rfl⟩
      rw [hwd] at hbd
      have HWD := Lib.hid hwd
      have HC1 := Lib.hid (fun (w' : World) (hb : Below wr.heap.size wr w') => (eqI29_any D1 E1 (onL x.2.2.1).length d1 (onL d.2.2.1).length e1 (natI (onL x.2.2.1)) (natI (onL d.2.2.1)) w' wr.heap.size w.heap.size (HT1.out.sl.below hb (Nat.le_refl _)) ((H1.out.sl.below hbw (Nat.le_refl _)).below hb hwB) (by simp [natI]) (by simp [natI]) (by omega)).mono (fun _ _ h => said_tru h))
      have HC2 := Lib.hid (fun (w' : World) (hb : Below wr.heap.size wr w') (hx2 : (onL x.2.2.2).length ≤ 1000) => (eqI29_any D2 E2 (onL x.2.2.2).length d2 (onL d.2.2.2).length e2 (natI (onL x.2.2.2)) (natI (onL d.2.2.2)) w' wr.heap.size w.heap.size (HT2.out.sl.below hb (Nat.le_refl _)) ((H2.out.sl.below hbw (Nat.le_refl _)).below hb hwB) (by simp [natI]) (by simp [natI]) (by omega)).mono (fun _ _ h => said_tru h))
      have hxb2 : (onL x.2.2.2).length ≤ 1000 := Nat.le_trans (onL_len _) (by rw [hokx.l2]; omega)
      clear t1 t2 hfa hsn hokx hwd
      by_cases g1 : x.1 = d.1
      · have m1 : ((x.1 : Int) == (d.1 : Int)) = true := by simp [g1]
        have G1 := Lib.hid g1
        clear g1
        by_cases g2 : x.2.1 = d.2.1
        · have m2 : ((x.2.1 : Int) == (d.2.1 : Int)) = true := by simp [g2]
          have G2 := Lib.hid g2
          clear g2
          by_cases g3 : natI (onL x.2.2.1) = natI (onL d.2.2.1)
          · have G3 := Lib.hid g3
            rw [show decide (natI (onL x.2.2.1) = natI (onL d.2.2.1)) = true from decide_eq_true g3] at HC1
            clear g3
            by_cases g4 : natI (onL x.2.2.2) = natI (onL d.2.2.2)
            · have hxd : x = d := cov_eq HOX.out HD.out G1.out G2.out G3.out g4
              rw [show decide (natI (onL x.2.2.2) = natI (onL d.2.2.2)) = true from decide_eq_true g4] at HC2
              have HE : Hid (findN L d = (i : Nat)) := Lib.hid (HFA.out hxd)
              clear g4 hxd
              go_wp2_with fail
              refine wp_region_held_drew (S := fun w' => w'.cell? ⟨bb, oo + i * 4, none⟩ = some (.int .u64 (x.1 : Int)) ∧ w'.cell? ⟨bb, oo + i * 4 + 1, none⟩ = some (.int .u64 (x.2.1 : Int)) ∧ w'.cell? ⟨bb, oo + i * 4 + 2, none⟩ = some (.slice D1 (onL x.2.2.1).length d1) ∧ w'.cell? ⟨bb, oo + i * 4 + 3, none⟩ = some (.slice D2 (onL x.2.2.2).length d2) ∧ w'.cell? ⟨w.heap.size, 0, none⟩ = some (.int .u64 (d.1 : Int)) ∧ w'.cell? ⟨w.heap.size, 1, none⟩ = some (.int .u64 (d.2.1 : Int)) ∧ w'.cell? ⟨w.heap.size, 2, none⟩ = some (.slice E1 (onL d.2.2.1).length e1) ∧ w'.cell? ⟨w.heap.size, 3, none⟩ = some (.slice E2 (onL d.2.2.2).length e2)) (by kernel_rfl) ⟨p0, p1, p2, p3, q0, q1, q2, q3⟩ (fun hS => ?_)
              refine wpAnyH_takeD (i := 0) (v := ?_) rfl (by kernel_rfl) (by kernel_rfl) (by kernel_rfl) (fun _ _ _ h => h) (Or.inl ⟨by kernel_rfl, ?_⟩) hS ?_
              rotate_left 1
              · (intro w' hSw; (try dsimp only at hSw); go_simp; try (with_reducible rfl))
              try simp only [Act.put, List.setIfInBounds_toArray, List.set_cons_zero, List.set_cons_succ]
              refine wpAnyH_takeD (i := 1) (v := ?_) rfl (by kernel_rfl) (by kernel_rfl) (by kernel_rfl) (fun _ _ _ h => h) (Or.inl ⟨by kernel_rfl, ?_⟩) hS ?_
              rotate_left 1
              · (intro w' hSw; (try dsimp only at hSw); go_simp; try (with_reducible rfl))
              try simp only [Act.put, List.setIfInBounds_toArray, List.set_cons_zero, List.set_cons_succ]
              refine wpAnyH_takeD (i := 2) (v := ?_) rfl (by kernel_rfl) (by kernel_rfl) (by kernel_rfl) (fun _ _ _ h => h) (Or.inl ⟨by kernel_rfl, ?_⟩) hS ?_
              rotate_left 1
              · (intro w' hSw; (try dsimp only at hSw); go_simp; try (with_reducible rfl))
              try simp only [Act.put, List.setIfInBounds_toArray, List.set_cons_zero, List.set_cons_succ]
              refine wpAnyH_takeD (i := 3) (v := ?_) rfl (by kernel_rfl) (by kernel_rfl) (by kernel_rfl) (fun _ _ _ h => h) (Or.inl ⟨by kernel_rfl, ?_⟩) hS ?_
              rotate_left 1
              · (intro w' hSw; (try dsimp only at hSw); go_simp; try (with_reducible rfl))
              try simp only [Act.put, List.setIfInBounds_toArray, List.set_cons_zero, List.set_cons_succ]
              refine wpAnyH_takeD (i := 4) (v := ?_) rfl (by kernel_rfl) (by kernel_rfl) (by kernel_rfl) (fun _ _ _ h => h) (Or.inl ⟨by kernel_rfl, ?_⟩) hS ?_
              rotate_left 1
              · (intro w' hSw; (try dsimp only at hSw); go_simp; try (with_reducible rfl))
              try simp only [Act.put, List.setIfInBounds_toArray, List.set_cons_zero, List.set_cons_succ]
              refine wpAnyH_takeD (i := 5) (v := ?_) rfl (by kernel_rfl) (by kernel_rfl) (by kernel_rfl) (fun _ _ _ h => h) (Or.inl ⟨by kernel_rfl, ?_⟩) hS ?_
              rotate_left 1
              · (intro w' hSw; (try dsimp only at hSw); go_simp; try (with_reducible rfl))
              try simp only [Act.put, List.setIfInBounds_toArray, List.set_cons_zero, List.set_cons_succ]
              refine wpAnyH_takeD (i := 6) (v := ?_) rfl (by kernel_rfl) (by kernel_rfl) (by kernel_rfl) (fun _ _ _ h => h) (Or.inl ⟨by kernel_rfl, ?_⟩) hS ?_
              rotate_left 1
              · (intro w' hSw; (try dsimp only at hSw); go_simp; try (with_reducible rfl))
              try simp only [Act.put, List.setIfInBounds_toArray, List.set_cons_zero, List.set_cons_succ]
              refine wpAnyH_takeD (i := 7) (v := ?_) rfl (by kernel_rfl) (by kernel_rfl) (by kernel_rfl) (fun _ _ _ h => h) (Or.inl ⟨by kernel_rfl, ?_⟩) hS ?_
              rotate_left 1
              · (intro w' hSw; (try dsimp only at hSw); go_simp; try (with_reducible rfl))
              try simp only [Act.put, List.setIfInBounds_toArray, List.set_cons_zero, List.set_cons_succ]
              refine wpAnyH_takeD (i := 8) (v := ?_) rfl (by kernel_rfl) (by kernel_rfl) (by kernel_rfl) (fun _ _ _ h => h) (Or.inl ⟨by kernel_rfl, ?_⟩) hS ?_
              rotate_left 1
              · (intro w' hSw; (try dsimp only at hSw); go_simp; try (with_reducible rfl))
              try simp only [Act.put, List.setIfInBounds_toArray, List.set_cons_zero, List.set_cons_succ]
              refine wpAnyH_takeD (i := 9) (v := ?_) rfl (by kernel_rfl) (by kernel_rfl) (by kernel_rfl) (fun _ _ _ h => h) (Or.inl ⟨by kernel_rfl, ?_⟩) hS ?_
              rotate_left 1
              · (intro w' hSw; (try dsimp only at hSw); go_simp; try (with_reducible rfl))
              try simp only [Act.put, List.setIfInBounds_toArray, List.set_cons_zero, List.set_cons_succ]
              refine wpAnyH_takeD (i := 10) (v := ?_) rfl (by kernel_rfl) (by kernel_rfl) (by kernel_rfl) (fun _ _ _ h => h) (Or.inl ⟨by kernel_rfl, ?_⟩) hS ?_
              rotate_left 1
              · (intro w' hSw; (try dsimp only at hSw); go_simp; try (with_reducible rfl))
              try simp only [Act.put, List.setIfInBounds_toArray, List.set_cons_zero, List.set_cons_succ]
              refine wpAnyH_takeD (i := 11) (v := ?_) rfl (by kernel_rfl) (by kernel_rfl) (by kernel_rfl) (fun _ _ _ h => h) (Or.inl ⟨by kernel_rfl, ?_⟩) hS ?_
              rotate_left 1
              · (intro w' hSw; (try dsimp only at hSw); go_simp; try (with_reducible rfl))
              try simp only [Act.put, List.setIfInBounds_toArray, List.set_cons_zero, List.set_cons_succ]
              refine wpAnyH_takeD (i := 12) (v := ?_) rfl (by kernel_rfl) (by kernel_rfl) (by kernel_rfl) (fun _ _ _ h => h) (Or.inl ⟨by kernel_rfl, ?_⟩) hS ?_
              rotate_left 1
              · (intro w' hSw; (try dsimp only at hSw); go_simp; try (with_reducible rfl))
              try simp only [Act.put, List.setIfInBounds_toArray, List.set_cons_zero, List.set_cons_succ]
              refine wpAnyH_takeD (i := 13) (v := ?_) rfl (by kernel_rfl) (by kernel_rfl) (by kernel_rfl) (fun _ _ _ h => h) (Or.inl ⟨by kernel_rfl, ?_⟩) hS ?_
              rotate_left 1
              · (intro w' hSw; (try dsimp only at hSw); go_simp; try (with_reducible rfl))
              try simp only [Act.put, List.setIfInBounds_toArray, List.set_cons_zero, List.set_cons_succ]
              refine wpAnyH_takeD (i := 14) (v := ?_) rfl (by kernel_rfl) (by kernel_rfl) (by kernel_rfl) (fun _ _ _ h => h) (Or.inl ⟨by kernel_rfl, ?_⟩) hS ?_
              rotate_left 1
              · (intro w' hSw; (try dsimp only at hSw); go_simp; try (with_reducible rfl))
              try simp only [Act.put, List.setIfInBounds_toArray, List.set_cons_zero, List.set_cons_succ]
              refine wpAnyH_takeD (i := 15) (v := ?_) rfl (by kernel_rfl) (by kernel_rfl) (by kernel_rfl) (fun _ _ _ h => h) (Or.inl ⟨by kernel_rfl, ?_⟩) hS ?_
              rotate_left 1
              · (intro w' hSw; (try dsimp only at hSw); go_simp; try (with_reducible rfl))
              try simp only [Act.put, List.setIfInBounds_toArray, List.set_cons_zero, List.set_cons_succ]
              refine wpAnyH_takeD (i := 16) (v := ?_) rfl (by kernel_rfl) (by kernel_rfl) (by kernel_rfl) (fun _ _ _ h => h) (Or.inl ⟨by kernel_rfl, ?_⟩) hS ?_
              rotate_left 1
              · (intro w' hSw; (try dsimp only at hSw); go_simp; try (with_reducible rfl))
              try simp only [Act.put, List.setIfInBounds_toArray, List.set_cons_zero, List.set_cons_succ]
              refine wpAnyH_takeD (i := 17) (v := ?_) rfl (by kernel_rfl) (by kernel_rfl) (by kernel_rfl) (fun _ _ _ h => h) (Or.inl ⟨by kernel_rfl, ?_⟩) hS ?_
              rotate_left 1
              · (intro w' hSw; (try dsimp only at hSw); go_simp; try (with_reducible rfl))
              try simp only [Act.put, List.setIfInBounds_toArray, List.set_cons_zero, List.set_cons_succ]
              refine wpAnyH_takeD (i := 18) (v := ?_) rfl (by kernel_rfl) (by kernel_rfl) (by kernel_rfl) (fun _ _ _ h => h) (Or.inl ⟨by kernel_rfl, ?_⟩) hS ?_
              rotate_left 1
              · (intro w' hSw; (try dsimp only at hSw); go_simp; try (with_reducible rfl))
              try simp only [Act.put, List.setIfInBounds_toArray, List.set_cons_zero, List.set_cons_succ]
              refine wpAnyH_takeD (i := 19) (v := ?_) rfl (by kernel_rfl) (by kernel_rfl) (by kernel_rfl) (fun _ _ _ h => h) (Or.inl ⟨by kernel_rfl, ?_⟩) hS ?_
              rotate_left 1
              · (intro w' hSw; (try dsimp only at hSw); go_simp; try (with_reducible rfl))
              try simp only [Act.put, List.setIfInBounds_toArray, List.set_cons_zero, List.set_cons_succ]
              refine wpAnyH_takeD (i := 20) (v := ?_) rfl (by kernel_rfl) (by kernel_rfl) (by kernel_rfl) (fun _ _ _ h => h) (Or.inl ⟨by kernel_rfl, ?_⟩) hS ?_
              rotate_left 1
              · (intro w' hSw; (try dsimp only at hSw); go_simp; try (with_reducible rfl))
              try simp only [Act.put, List.setIfInBounds_toArray, List.set_cons_zero, List.set_cons_succ]
              refine wpAnyH_takeD (i := 21) (v := ?_) rfl (by kernel_rfl) (by kernel_rfl) (by kernel_rfl) (fun _ _ _ h => h) (Or.inl ⟨by kernel_rfl, ?_⟩) hS ?_
              rotate_left 1
              · (intro w' hSw; (try dsimp only at hSw); go_simp; try (with_reducible rfl))
              try simp only [Act.put, List.setIfInBounds_toArray, List.set_cons_zero, List.set_cons_succ]
              refine wpAnyH_takeD (i := 22) (v := ?_) rfl (by kernel_rfl) (by kernel_rfl) (by kernel_rfl) (fun _ _ _ h => h) (Or.inl ⟨by kernel_rfl, ?_⟩) hS ?_
              rotate_left 1
              · (intro w' hSw; (try dsimp only at hSw); go_simp; try (with_reducible rfl))
              try simp only [Act.put, List.setIfInBounds_toArray, List.set_cons_zero, List.set_cons_succ]
              refine wpAnyH_takeD (i := 23) (v := ?_) rfl (by kernel_rfl) (by kernel_rfl) (by kernel_rfl) (fun _ _ _ h => h) (Or.inl ⟨by kernel_rfl, ?_⟩) hS ?_
              rotate_left 1
              · (intro w' hSw; (try dsimp only at hSw); go_simp; try (with_reducible rfl))
              try simp only [Act.put, List.setIfInBounds_toArray, List.set_cons_zero, List.set_cons_succ]
              refine wpAnyH_takeD (i := 24) (v := ?_) rfl (by kernel_rfl) (by kernel_rfl) (by kernel_rfl) (fun _ _ _ h => h) (Or.inl ⟨by kernel_rfl, ?_⟩) hS ?_
              rotate_left 1
              · (intro w' hSw; (try dsimp only at hSw); go_simp; try (with_reducible rfl))
              try simp only [Act.put, List.setIfInBounds_toArray, List.set_cons_zero, List.set_cons_succ]
              refine wpAnyH_takeD (i := 25) (v := ?_) rfl (by kernel_rfl) (by kernel_rfl) (by kernel_rfl) (fun _ _ _ h => h) (Or.inl ⟨by kernel_rfl, ?_⟩) hS ?_
              rotate_left 1
              · (intro w' hSw; (try dsimp only at hSw); go_simp; try (with_reducible rfl))
              try simp only [Act.put, List.setIfInBounds_toArray, List.set_cons_zero, List.set_cons_succ]
              refine wpAnyH_oneD (i := 26) rfl (by kernel_rfl) (fun K hK => ?_)
              go_simp
              rw [HWD.out]
              refine Calls.mono (HC1.out wd hbd) ?_
              rintro e w1' ⟨rfl, hq1⟩
              have hb1 : Below wr.heap.size wr w1' := hbd.trans (hq1.mono hbd.size)
              clear hq1
              dsimp only
              refine hK.out _ _ ⟨(hb1.cell (p := ⟨bb, oo + i * 4, none⟩) (show bb < wr.heap.size by omega)).trans p0, (hb1.cell (p := ⟨bb, oo + i * 4 + 1, none⟩) (show bb < wr.heap.size by omega)).trans p1, (hb1.cell (p := ⟨bb, oo + i * 4 + 2, none⟩) (show bb < wr.heap.size by omega)).trans p2, (hb1.cell (p := ⟨bb, oo + i * 4 + 3, none⟩) (show bb < wr.heap.size by omega)).trans p3, (hb1.cell (p := ⟨w.heap.size, 0, none⟩) (show w.heap.size < wr.heap.size by omega)).trans q0, (hb1.cell (p := ⟨w.heap.size, 1, none⟩) (show w.heap.size < wr.heap.size by omega)).trans q1, (hb1.cell (p := ⟨w.heap.size, 2, none⟩) (show w.heap.size < wr.heap.size by omega)).trans q2, (hb1.cell (p := ⟨w.heap.size, 3, none⟩) (show w.heap.size < wr.heap.size by omega)).trans q3⟩ (fun hS => ?_)
              clear hK
              try simp only [Act.put, List.setIfInBounds_toArray, List.set_cons_zero, List.set_cons_succ]
              refine wpAnyH_takeD (i := 27) (v := ?_) rfl (by kernel_rfl) (by kernel_rfl) (by kernel_rfl) (fun _ _ _ h => h) (Or.inl ⟨by kernel_rfl, ?_⟩) hS ?_
              rotate_left 1
              · (intro w' hSw; (try dsimp only at hSw); go_simp; try (with_reducible rfl))
              try simp only [Act.put, List.setIfInBounds_toArray, List.set_cons_zero, List.set_cons_succ]
              refine wpAnyH_takeD (i := 28) (v := ?_) rfl (by kernel_rfl) (by kernel_rfl) (by kernel_rfl) (fun _ _ _ h => h) (Or.inl ⟨by kernel_rfl, ?_⟩) hS ?_
              rotate_left 1
              · (intro w' hSw; (try dsimp only at hSw); go_simp; try (with_reducible rfl))
              try simp only [Act.put, List.setIfInBounds_toArray, List.set_cons_zero, List.set_cons_succ]
              refine wpAnyH_takeD (i := 29) (v := ?_) rfl (by kernel_rfl) (by kernel_rfl) (by kernel_rfl) (fun _ _ _ h => h) (Or.inl ⟨by kernel_rfl, ?_⟩) hS ?_
              rotate_left 1
              · (intro w' hSw; (try dsimp only at hSw); go_simp; try (with_reducible rfl))
              try simp only [Act.put, List.setIfInBounds_toArray, List.set_cons_zero, List.set_cons_succ]
              refine wpAnyH_takeD (i := 30) (v := ?_) rfl (by kernel_rfl) (by kernel_rfl) (by kernel_rfl) (fun _ _ _ h => h) (Or.inl ⟨by kernel_rfl, ?_⟩) hS ?_
              rotate_left 1
              · (intro w' hSw; (try dsimp only at hSw); go_simp; try (with_reducible rfl))
              try simp only [Act.put, List.setIfInBounds_toArray, List.set_cons_zero, List.set_cons_succ]
              refine wpAnyH_takeD (i := 31) (v := ?_) rfl (by kernel_rfl) (by kernel_rfl) (by kernel_rfl) (fun _ _ _ h => h) (Or.inl ⟨by kernel_rfl, ?_⟩) hS ?_
              rotate_left 1
              · (intro w' hSw; (try dsimp only at hSw); go_simp; try (with_reducible rfl))
              try simp only [Act.put, List.setIfInBounds_toArray, List.set_cons_zero, List.set_cons_succ]
              refine wpAnyH_takeD (i := 32) (v := ?_) rfl (by kernel_rfl) (by kernel_rfl) (by kernel_rfl) (fun _ _ _ h => h) (Or.inl ⟨by kernel_rfl, ?_⟩) hS ?_
              rotate_left 1
              · (intro w' hSw; (try dsimp only at hSw); go_simp; try (with_reducible rfl))
              try simp only [Act.put, List.setIfInBounds_toArray, List.set_cons_zero, List.set_cons_succ]
              refine wpAnyH_takeD (i := 33) (v := ?_) rfl (by kernel_rfl) (by kernel_rfl) (by kernel_rfl) (fun _ _ _ h => h) (Or.inl ⟨by kernel_rfl, ?_⟩) hS ?_
              rotate_left 1
              · (intro w' hSw; (try dsimp only at hSw); go_simp; try (with_reducible rfl))
              try simp only [Act.put, List.setIfInBounds_toArray, List.set_cons_zero, List.set_cons_succ]
              refine wpAnyH_takeD (i := 34) (v := ?_) rfl (by kernel_rfl) (by kernel_rfl) (by kernel_rfl) (fun _ _ _ h => h) (Or.inl ⟨by kernel_rfl, ?_⟩) hS ?_
              rotate_left 1
              · (intro w' hSw; (try dsimp only at hSw); go_simp; try (with_reducible rfl))
              try simp only [Act.put, List.setIfInBounds_toArray, List.set_cons_zero, List.set_cons_succ]
              refine wpAnyH_takeD (i := 35) (v := ?_) rfl (by kernel_rfl) (by kernel_rfl) (by kernel_rfl) (fun _ _ _ h => h) (Or.inl ⟨by kernel_rfl, ?_⟩) hS ?_
              rotate_left 1
              · (intro w' hSw; (try dsimp only at hSw); go_simp; try (with_reducible rfl))
              try simp only [Act.put, List.setIfInBounds_toArray, List.set_cons_zero, List.set_cons_succ]
              refine wpAnyH_oneD (i := 36) rfl (by kernel_rfl) (fun K hK => ?_)
              go_simp
              refine Calls.mono (HC2.out _ hb1 hxb2) ?_
              rintro e w2' ⟨rfl, hq2⟩
              have hb2 : Below wr.heap.size wr w2' := hb1.trans (hq2.mono hb1.size)
              clear hq2
              dsimp only
              refine hK.out _ _ ⟨(hb2.cell (p := ⟨bb, oo + i * 4, none⟩) (show bb < wr.heap.size by omega)).trans p0, (hb2.cell (p := ⟨bb, oo + i * 4 + 1, none⟩) (show bb < wr.heap.size by omega)).trans p1, (hb2.cell (p := ⟨bb, oo + i * 4 + 2, none⟩) (show bb < wr.heap.size by omega)).trans p2, (hb2.cell (p := ⟨bb, oo + i * 4 + 3, none⟩) (show bb < wr.heap.size by omega)).trans p3, (hb2.cell (p := ⟨w.heap.size, 0, none⟩) (show w.heap.size < wr.heap.size by omega)).trans q0, (hb2.cell (p := ⟨w.heap.size, 1, none⟩) (show w.heap.size < wr.heap.size by omega)).trans q1, (hb2.cell (p := ⟨w.heap.size, 2, none⟩) (show w.heap.size < wr.heap.size by omega)).trans q2, (hb2.cell (p := ⟨w.heap.size, 3, none⟩) (show w.heap.size < wr.heap.size by omega)).trans q3⟩ (fun hS => ?_)
              clear hK
              try simp only [Act.put, List.setIfInBounds_toArray, List.set_cons_zero, List.set_cons_succ]
              refine wpAnyH_takeD (i := 37) (v := ?_) rfl (by kernel_rfl) (by kernel_rfl) (by kernel_rfl) (fun _ _ _ h => h) (Or.inl ⟨by kernel_rfl, ?_⟩) hS ?_
              rotate_left 1
              · (intro w' hSw; (try dsimp only at hSw); go_simp; try (with_reducible rfl))
              try simp only [Act.put, List.setIfInBounds_toArray, List.set_cons_zero, List.set_cons_succ]
              refine wpAnyH_done (by kernel_rfl) ?_ _
              go_wp2_with fail
              go_ret
              exact ⟨by rw [HE.out]; rfl, hbw.trans (hb2.mono hwB)⟩
            · have hxd : x ≠ d := fun h => g4 (by rw [h])
              rw [show decide (natI (onL x.2.2.2) = natI (onL d.2.2.2)) = false from decide_eq_false g4] at HC2
              have HE := Lib.hid (HSN.out hxd)
              clear g4 hxd
              go_wp2_with fail
              refine wp_region_held_drew (S := fun w' => w'.cell? ⟨bb, oo + i * 4, none⟩ = some (.int .u64 (x.1 : Int)) ∧ w'.cell? ⟨bb, oo + i * 4 + 1, none⟩ = some (.int .u64 (x.2.1 : Int)) ∧ w'.cell? ⟨bb, oo + i * 4 + 2, none⟩ = some (.slice D1 (onL x.2.2.1).length d1) ∧ w'.cell? ⟨bb, oo + i * 4 + 3, none⟩ = some (.slice D2 (onL x.2.2.2).length d2) ∧ w'.cell? ⟨w.heap.size, 0, none⟩ = some (.int .u64 (d.1 : Int)) ∧ w'.cell? ⟨w.heap.size, 1, none⟩ = some (.int .u64 (d.2.1 : Int)) ∧ w'.cell? ⟨w.heap.size, 2, none⟩ = some (.slice E1 (onL d.2.2.1).length e1) ∧ w'.cell? ⟨w.heap.size, 3, none⟩ = some (.slice E2 (onL d.2.2.2).length e2)) (by kernel_rfl) ⟨p0, p1, p2, p3, q0, q1, q2, q3⟩ (fun hS => ?_)
              refine wpAnyH_takeD (i := 0) (v := ?_) rfl (by kernel_rfl) (by kernel_rfl) (by kernel_rfl) (fun _ _ _ h => h) (Or.inl ⟨by kernel_rfl, ?_⟩) hS ?_
              rotate_left 1
              · (intro w' hSw; (try dsimp only at hSw); go_simp; try (with_reducible rfl))
              try simp only [Act.put, List.setIfInBounds_toArray, List.set_cons_zero, List.set_cons_succ]
              refine wpAnyH_takeD (i := 1) (v := ?_) rfl (by kernel_rfl) (by kernel_rfl) (by kernel_rfl) (fun _ _ _ h => h) (Or.inl ⟨by kernel_rfl, ?_⟩) hS ?_
              rotate_left 1
              · (intro w' hSw; (try dsimp only at hSw); go_simp; try (with_reducible rfl))
              try simp only [Act.put, List.setIfInBounds_toArray, List.set_cons_zero, List.set_cons_succ]
              refine wpAnyH_takeD (i := 2) (v := ?_) rfl (by kernel_rfl) (by kernel_rfl) (by kernel_rfl) (fun _ _ _ h => h) (Or.inl ⟨by kernel_rfl, ?_⟩) hS ?_
              rotate_left 1
              · (intro w' hSw; (try dsimp only at hSw); go_simp; try (with_reducible rfl))
              try simp only [Act.put, List.setIfInBounds_toArray, List.set_cons_zero, List.set_cons_succ]
              refine wpAnyH_takeD (i := 3) (v := ?_) rfl (by kernel_rfl) (by kernel_rfl) (by kernel_rfl) (fun _ _ _ h => h) (Or.inl ⟨by kernel_rfl, ?_⟩) hS ?_
              rotate_left 1
              · (intro w' hSw; (try dsimp only at hSw); go_simp; try (with_reducible rfl))
              try simp only [Act.put, List.setIfInBounds_toArray, List.set_cons_zero, List.set_cons_succ]
              refine wpAnyH_takeD (i := 4) (v := ?_) rfl (by kernel_rfl) (by kernel_rfl) (by kernel_rfl) (fun _ _ _ h => h) (Or.inl ⟨by kernel_rfl, ?_⟩) hS ?_
              rotate_left 1
              · (intro w' hSw; (try dsimp only at hSw); go_simp; try (with_reducible rfl))
              try simp only [Act.put, List.setIfInBounds_toArray, List.set_cons_zero, List.set_cons_succ]
              refine wpAnyH_takeD (i := 5) (v := ?_) rfl (by kernel_rfl) (by kernel_rfl) (by kernel_rfl) (fun _ _ _ h => h) (Or.inl ⟨by kernel_rfl, ?_⟩) hS ?_
              rotate_left 1
              · (intro w' hSw; (try dsimp only at hSw); go_simp; try (with_reducible rfl))
              try simp only [Act.put, List.setIfInBounds_toArray, List.set_cons_zero, List.set_cons_succ]
              refine wpAnyH_takeD (i := 6) (v := ?_) rfl (by kernel_rfl) (by kernel_rfl) (by kernel_rfl) (fun _ _ _ h => h) (Or.inl ⟨by kernel_rfl, ?_⟩) hS ?_
              rotate_left 1
              · (intro w' hSw; (try dsimp only at hSw); go_simp; try (with_reducible rfl))
              try simp only [Act.put, List.setIfInBounds_toArray, List.set_cons_zero, List.set_cons_succ]
              refine wpAnyH_takeD (i := 7) (v := ?_) rfl (by kernel_rfl) (by kernel_rfl) (by kernel_rfl) (fun _ _ _ h => h) (Or.inl ⟨by kernel_rfl, ?_⟩) hS ?_
              rotate_left 1
              · (intro w' hSw; (try dsimp only at hSw); go_simp; try (with_reducible rfl))
              try simp only [Act.put, List.setIfInBounds_toArray, List.set_cons_zero, List.set_cons_succ]
              refine wpAnyH_takeD (i := 8) (v := ?_) rfl (by kernel_rfl) (by kernel_rfl) (by kernel_rfl) (fun _ _ _ h => h) (Or.inl ⟨by kernel_rfl, ?_⟩) hS ?_
              rotate_left 1
              · (intro w' hSw; (try dsimp only at hSw); go_simp; try (with_reducible rfl))
              try simp only [Act.put, List.setIfInBounds_toArray, List.set_cons_zero, List.set_cons_succ]
              refine wpAnyH_takeD (i := 9) (v := ?_) rfl (by kernel_rfl) (by kernel_rfl) (by kernel_rfl) (fun _ _ _ h => h) (Or.inl ⟨by kernel_rfl, ?_⟩) hS ?_
              rotate_left 1
              · (intro w' hSw; (try dsimp only at hSw); go_simp; try (with_reducible rfl))
              try simp only [Act.put, List.setIfInBounds_toArray, List.set_cons_zero, List.set_cons_succ]
              refine wpAnyH_takeD (i := 10) (v := ?_) rfl (by kernel_rfl) (by kernel_rfl) (by kernel_rfl) (fun _ _ _ h => h) (Or.inl ⟨by kernel_rfl, ?_⟩) hS ?_
              rotate_left 1
              · (intro w' hSw; (try dsimp only at hSw); go_simp; try (with_reducible rfl))
              try simp only [Act.put, List.setIfInBounds_toArray, List.set_cons_zero, List.set_cons_succ]
              refine wpAnyH_takeD (i := 11) (v := ?_) rfl (by kernel_rfl) (by kernel_rfl) (by kernel_rfl) (fun _ _ _ h => h) (Or.inl ⟨by kernel_rfl, ?_⟩) hS ?_
              rotate_left 1
              · (intro w' hSw; (try dsimp only at hSw); go_simp; try (with_reducible rfl))
              try simp only [Act.put, List.setIfInBounds_toArray, List.set_cons_zero, List.set_cons_succ]
              refine wpAnyH_takeD (i := 12) (v := ?_) rfl (by kernel_rfl) (by kernel_rfl) (by kernel_rfl) (fun _ _ _ h => h) (Or.inl ⟨by kernel_rfl, ?_⟩) hS ?_
              rotate_left 1
              · (intro w' hSw; (try dsimp only at hSw); go_simp; try (with_reducible rfl))
              try simp only [Act.put, List.setIfInBounds_toArray, List.set_cons_zero, List.set_cons_succ]
              refine wpAnyH_takeD (i := 13) (v := ?_) rfl (by kernel_rfl) (by kernel_rfl) (by kernel_rfl) (fun _ _ _ h => h) (Or.inl ⟨by kernel_rfl, ?_⟩) hS ?_
              rotate_left 1
              · (intro w' hSw; (try dsimp only at hSw); go_simp; try (with_reducible rfl))
              try simp only [Act.put, List.setIfInBounds_toArray, List.set_cons_zero, List.set_cons_succ]
              refine wpAnyH_takeD (i := 14) (v := ?_) rfl (by kernel_rfl) (by kernel_rfl) (by kernel_rfl) (fun _ _ _ h => h) (Or.inl ⟨by kernel_rfl, ?_⟩) hS ?_
              rotate_left 1
              · (intro w' hSw; (try dsimp only at hSw); go_simp; try (with_reducible rfl))
              try simp only [Act.put, List.setIfInBounds_toArray, List.set_cons_zero, List.set_cons_succ]
              refine wpAnyH_takeD (i := 15) (v := ?_) rfl (by kernel_rfl) (by kernel_rfl) (by kernel_rfl) (fun _ _ _ h => h) (Or.inl ⟨by kernel_rfl, ?_⟩) hS ?_
              rotate_left 1
              · (intro w' hSw; (try dsimp only at hSw); go_simp; try (with_reducible rfl))
              try simp only [Act.put, List.setIfInBounds_toArray, List.set_cons_zero, List.set_cons_succ]
              refine wpAnyH_takeD (i := 16) (v := ?_) rfl (by kernel_rfl) (by kernel_rfl) (by kernel_rfl) (fun _ _ _ h => h) (Or.inl ⟨by kernel_rfl, ?_⟩) hS ?_
              rotate_left 1
              · (intro w' hSw; (try dsimp only at hSw); go_simp; try (with_reducible rfl))
              try simp only [Act.put, List.setIfInBounds_toArray, List.set_cons_zero, List.set_cons_succ]
              refine wpAnyH_takeD (i := 17) (v := ?_) rfl (by kernel_rfl) (by kernel_rfl) (by kernel_rfl) (fun _ _ _ h => h) (Or.inl ⟨by kernel_rfl, ?_⟩) hS ?_
              rotate_left 1
              · (intro w' hSw; (try dsimp only at hSw); go_simp; try (with_reducible rfl))
              try simp only [Act.put, List.setIfInBounds_toArray, List.set_cons_zero, List.set_cons_succ]
              refine wpAnyH_takeD (i := 18) (v := ?_) rfl (by kernel_rfl) (by kernel_rfl) (by kernel_rfl) (fun _ _ _ h => h) (Or.inl ⟨by kernel_rfl, ?_⟩) hS ?_
              rotate_left 1
              · (intro w' hSw; (try dsimp only at hSw); go_simp; try (with_reducible rfl))
              try simp only [Act.put, List.setIfInBounds_toArray, List.set_cons_zero, List.set_cons_succ]
              refine wpAnyH_takeD (i := 19) (v := ?_) rfl (by kernel_rfl) (by kernel_rfl) (by kernel_rfl) (fun _ _ _ h => h) (Or.inl ⟨by kernel_rfl, ?_⟩) hS ?_
              rotate_left 1
              · (intro w' hSw; (try dsimp only at hSw); go_simp; try (with_reducible rfl))
              try simp only [Act.put, List.setIfInBounds_toArray, List.set_cons_zero, List.set_cons_succ]
              refine wpAnyH_takeD (i := 20) (v := ?_) rfl (by kernel_rfl) (by kernel_rfl) (by kernel_rfl) (fun _ _ _ h => h) (Or.inl ⟨by kernel_rfl, ?_⟩) hS ?_
              rotate_left 1
              · (intro w' hSw; (try dsimp only at hSw); go_simp; try (with_reducible rfl))
              try simp only [Act.put, List.setIfInBounds_toArray, List.set_cons_zero, List.set_cons_succ]
              refine wpAnyH_takeD (i := 21) (v := ?_) rfl (by kernel_rfl) (by kernel_rfl) (by kernel_rfl) (fun _ _ _ h => h) (Or.inl ⟨by kernel_rfl, ?_⟩) hS ?_
              rotate_left 1
              · (intro w' hSw; (try dsimp only at hSw); go_simp; try (with_reducible rfl))
              try simp only [Act.put, List.setIfInBounds_toArray, List.set_cons_zero, List.set_cons_succ]
              refine wpAnyH_takeD (i := 22) (v := ?_) rfl (by kernel_rfl) (by kernel_rfl) (by kernel_rfl) (fun _ _ _ h => h) (Or.inl ⟨by kernel_rfl, ?_⟩) hS ?_
              rotate_left 1
              · (intro w' hSw; (try dsimp only at hSw); go_simp; try (with_reducible rfl))
              try simp only [Act.put, List.setIfInBounds_toArray, List.set_cons_zero, List.set_cons_succ]
              refine wpAnyH_takeD (i := 23) (v := ?_) rfl (by kernel_rfl) (by kernel_rfl) (by kernel_rfl) (fun _ _ _ h => h) (Or.inl ⟨by kernel_rfl, ?_⟩) hS ?_
              rotate_left 1
              · (intro w' hSw; (try dsimp only at hSw); go_simp; try (with_reducible rfl))
              try simp only [Act.put, List.setIfInBounds_toArray, List.set_cons_zero, List.set_cons_succ]
              refine wpAnyH_takeD (i := 24) (v := ?_) rfl (by kernel_rfl) (by kernel_rfl) (by kernel_rfl) (fun _ _ _ h => h) (Or.inl ⟨by kernel_rfl, ?_⟩) hS ?_
              rotate_left 1
              · (intro w' hSw; (try dsimp only at hSw); go_simp; try (with_reducible rfl))
              try simp only [Act.put, List.setIfInBounds_toArray, List.set_cons_zero, List.set_cons_succ]
              refine wpAnyH_takeD (i := 25) (v := ?_) rfl (by kernel_rfl) (by kernel_rfl) (by kernel_rfl) (fun _ _ _ h => h) (Or.inl ⟨by kernel_rfl, ?_⟩) hS ?_
              rotate_left 1
              · (intro w' hSw; (try dsimp only at hSw); go_simp; try (with_reducible rfl))
              try simp only [Act.put, List.setIfInBounds_toArray, List.set_cons_zero, List.set_cons_succ]
              refine wpAnyH_oneD (i := 26) rfl (by kernel_rfl) (fun K hK => ?_)
              go_simp
              rw [HWD.out]
              refine Calls.mono (HC1.out wd hbd) ?_
              rintro e w1' ⟨rfl, hq1⟩
              have hb1 : Below wr.heap.size wr w1' := hbd.trans (hq1.mono hbd.size)
              clear hq1
              dsimp only
              refine hK.out _ _ ⟨(hb1.cell (p := ⟨bb, oo + i * 4, none⟩) (show bb < wr.heap.size by omega)).trans p0, (hb1.cell (p := ⟨bb, oo + i * 4 + 1, none⟩) (show bb < wr.heap.size by omega)).trans p1, (hb1.cell (p := ⟨bb, oo + i * 4 + 2, none⟩) (show bb < wr.heap.size by omega)).trans p2, (hb1.cell (p := ⟨bb, oo + i * 4 + 3, none⟩) (show bb < wr.heap.size by omega)).trans p3, (hb1.cell (p := ⟨w.heap.size, 0, none⟩) (show w.heap.size < wr.heap.size by omega)).trans q0, (hb1.cell (p := ⟨w.heap.size, 1, none⟩) (show w.heap.size < wr.heap.size by omega)).trans q1, (hb1.cell (p := ⟨w.heap.size, 2, none⟩) (show w.heap.size < wr.heap.size by omega)).trans q2, (hb1.cell (p := ⟨w.heap.size, 3, none⟩) (show w.heap.size < wr.heap.size by omega)).trans q3⟩ (fun hS => ?_)
              clear hK
              try simp only [Act.put, List.setIfInBounds_toArray, List.set_cons_zero, List.set_cons_succ]
              refine wpAnyH_takeD (i := 27) (v := ?_) rfl (by kernel_rfl) (by kernel_rfl) (by kernel_rfl) (fun _ _ _ h => h) (Or.inl ⟨by kernel_rfl, ?_⟩) hS ?_
              rotate_left 1
              · (intro w' hSw; (try dsimp only at hSw); go_simp; try (with_reducible rfl))
              try simp only [Act.put, List.setIfInBounds_toArray, List.set_cons_zero, List.set_cons_succ]
              refine wpAnyH_takeD (i := 28) (v := ?_) rfl (by kernel_rfl) (by kernel_rfl) (by kernel_rfl) (fun _ _ _ h => h) (Or.inl ⟨by kernel_rfl, ?_⟩) hS ?_
              rotate_left 1
              · (intro w' hSw; (try dsimp only at hSw); go_simp; try (with_reducible rfl))
              try simp only [Act.put, List.setIfInBounds_toArray, List.set_cons_zero, List.set_cons_succ]
              refine wpAnyH_takeD (i := 29) (v := ?_) rfl (by kernel_rfl) (by kernel_rfl) (by kernel_rfl) (fun _ _ _ h => h) (Or.inl ⟨by kernel_rfl, ?_⟩) hS ?_
              rotate_left 1
              · (intro w' hSw; (try dsimp only at hSw); go_simp; try (with_reducible rfl))
              try simp only [Act.put, List.setIfInBounds_toArray, List.set_cons_zero, List.set_cons_succ]
              refine wpAnyH_takeD (i := 30) (v := ?_) rfl (by kernel_rfl) (by kernel_rfl) (by kernel_rfl) (fun _ _ _ h => h) (Or.inl ⟨by kernel_rfl, ?_⟩) hS ?_
              rotate_left 1
              · (intro w' hSw; (try dsimp only at hSw); go_simp; try (with_reducible rfl))
              try simp only [Act.put, List.setIfInBounds_toArray, List.set_cons_zero, List.set_cons_succ]
              refine wpAnyH_takeD (i := 31) (v := ?_) rfl (by kernel_rfl) (by kernel_rfl) (by kernel_rfl) (fun _ _ _ h => h) (Or.inl ⟨by kernel_rfl, ?_⟩) hS ?_
              rotate_left 1
              · (intro w' hSw; (try dsimp only at hSw); go_simp; try (with_reducible rfl))
              try simp only [Act.put, List.setIfInBounds_toArray, List.set_cons_zero, List.set_cons_succ]
              refine wpAnyH_takeD (i := 32) (v := ?_) rfl (by kernel_rfl) (by kernel_rfl) (by kernel_rfl) (fun _ _ _ h => h) (Or.inl ⟨by kernel_rfl, ?_⟩) hS ?_
              rotate_left 1
              · (intro w' hSw; (try dsimp only at hSw); go_simp; try (with_reducible rfl))
              try simp only [Act.put, List.setIfInBounds_toArray, List.set_cons_zero, List.set_cons_succ]
              refine wpAnyH_takeD (i := 33) (v := ?_) rfl (by kernel_rfl) (by kernel_rfl) (by kernel_rfl) (fun _ _ _ h => h) (Or.inl ⟨by kernel_rfl, ?_⟩) hS ?_
              rotate_left 1
              · (intro w' hSw; (try dsimp only at hSw); go_simp; try (with_reducible rfl))
              try simp only [Act.put, List.setIfInBounds_toArray, List.set_cons_zero, List.set_cons_succ]
              refine wpAnyH_takeD (i := 34) (v := ?_) rfl (by kernel_rfl) (by kernel_rfl) (by kernel_rfl) (fun _ _ _ h => h) (Or.inl ⟨by kernel_rfl, ?_⟩) hS ?_
              rotate_left 1
              · (intro w' hSw; (try dsimp only at hSw); go_simp; try (with_reducible rfl))
              try simp only [Act.put, List.setIfInBounds_toArray, List.set_cons_zero, List.set_cons_succ]
              refine wpAnyH_takeD (i := 35) (v := ?_) rfl (by kernel_rfl) (by kernel_rfl) (by kernel_rfl) (fun _ _ _ h => h) (Or.inl ⟨by kernel_rfl, ?_⟩) hS ?_
              rotate_left 1
              · (intro w' hSw; (try dsimp only at hSw); go_simp; try (with_reducible rfl))
              try simp only [Act.put, List.setIfInBounds_toArray, List.set_cons_zero, List.set_cons_succ]
              refine wpAnyH_oneD (i := 36) rfl (by kernel_rfl) (fun K hK => ?_)
              go_simp
              refine Calls.mono (HC2.out _ hb1 hxb2) ?_
              rintro e w2' ⟨rfl, hq2⟩
              have hb2 : Below wr.heap.size wr w2' := hb1.trans (hq2.mono hb1.size)
              clear hq2
              dsimp only
              refine hK.out _ _ ⟨(hb2.cell (p := ⟨bb, oo + i * 4, none⟩) (show bb < wr.heap.size by omega)).trans p0, (hb2.cell (p := ⟨bb, oo + i * 4 + 1, none⟩) (show bb < wr.heap.size by omega)).trans p1, (hb2.cell (p := ⟨bb, oo + i * 4 + 2, none⟩) (show bb < wr.heap.size by omega)).trans p2, (hb2.cell (p := ⟨bb, oo + i * 4 + 3, none⟩) (show bb < wr.heap.size by omega)).trans p3, (hb2.cell (p := ⟨w.heap.size, 0, none⟩) (show w.heap.size < wr.heap.size by omega)).trans q0, (hb2.cell (p := ⟨w.heap.size, 1, none⟩) (show w.heap.size < wr.heap.size by omega)).trans q1, (hb2.cell (p := ⟨w.heap.size, 2, none⟩) (show w.heap.size < wr.heap.size by omega)).trans q2, (hb2.cell (p := ⟨w.heap.size, 3, none⟩) (show w.heap.size < wr.heap.size by omega)).trans q3⟩ (fun hS => ?_)
              clear hK
              try simp only [Act.put, List.setIfInBounds_toArray, List.set_cons_zero, List.set_cons_succ]
              refine wpAnyH_takeD (i := 37) (v := ?_) rfl (by kernel_rfl) (by kernel_rfl) (by kernel_rfl) (fun _ _ _ h => h) (Or.inl ⟨by kernel_rfl, ?_⟩) hS ?_
              rotate_left 1
              · (intro w' hSw; (try dsimp only at hSw); go_simp; try (with_reducible rfl))
              try simp only [Act.put, List.setIfInBounds_toArray, List.set_cons_zero, List.set_cons_succ]
              refine wpAnyH_done (by kernel_rfl) ?_ _
              go_wp2_with fail
              go_roundw
              case rel => exact ⟨i + 1, by omega, by go_num, hbr.trans (hb2.mono hzr), HE⟩
              case measure => simp [intOf]; omega
          · have hxd : x ≠ d := fun h => g3 (by rw [h])
            rw [show decide (natI (onL x.2.2.1) = natI (onL d.2.2.1)) = false from decide_eq_false g3] at HC1
            have HE := Lib.hid (HSN.out hxd)
            clear g3 hxd
            go_wp2_with fail
            refine wp_region_held_drew (S := fun w' => w'.cell? ⟨bb, oo + i * 4, none⟩ = some (.int .u64 (x.1 : Int)) ∧ w'.cell? ⟨bb, oo + i * 4 + 1, none⟩ = some (.int .u64 (x.2.1 : Int)) ∧ w'.cell? ⟨bb, oo + i * 4 + 2, none⟩ = some (.slice D1 (onL x.2.2.1).length d1) ∧ w'.cell? ⟨bb, oo + i * 4 + 3, none⟩ = some (.slice D2 (onL x.2.2.2).length d2) ∧ w'.cell? ⟨w.heap.size, 0, none⟩ = some (.int .u64 (d.1 : Int)) ∧ w'.cell? ⟨w.heap.size, 1, none⟩ = some (.int .u64 (d.2.1 : Int)) ∧ w'.cell? ⟨w.heap.size, 2, none⟩ = some (.slice E1 (onL d.2.2.1).length e1) ∧ w'.cell? ⟨w.heap.size, 3, none⟩ = some (.slice E2 (onL d.2.2.2).length e2)) (by kernel_rfl) ⟨p0, p1, p2, p3, q0, q1, q2, q3⟩ (fun hS => ?_)
            refine wpAnyH_takeD (i := 0) (v := ?_) rfl (by kernel_rfl) (by kernel_rfl) (by kernel_rfl) (fun _ _ _ h => h) (Or.inl ⟨by kernel_rfl, ?_⟩) hS ?_
            rotate_left 1
            · (intro w' hSw; (try dsimp only at hSw); go_simp; try (with_reducible rfl))
            try simp only [Act.put, List.setIfInBounds_toArray, List.set_cons_zero, List.set_cons_succ]
            refine wpAnyH_takeD (i := 1) (v := ?_) rfl (by kernel_rfl) (by kernel_rfl) (by kernel_rfl) (fun _ _ _ h => h) (Or.inl ⟨by kernel_rfl, ?_⟩) hS ?_
            rotate_left 1
            · (intro w' hSw; (try dsimp only at hSw); go_simp; try (with_reducible rfl))
            try simp only [Act.put, List.setIfInBounds_toArray, List.set_cons_zero, List.set_cons_succ]
            refine wpAnyH_takeD (i := 2) (v := ?_) rfl (by kernel_rfl) (by kernel_rfl) (by kernel_rfl) (fun _ _ _ h => h) (Or.inl ⟨by kernel_rfl, ?_⟩) hS ?_
            rotate_left 1
            · (intro w' hSw; (try dsimp only at hSw); go_simp; try (with_reducible rfl))
            try simp only [Act.put, List.setIfInBounds_toArray, List.set_cons_zero, List.set_cons_succ]
            refine wpAnyH_takeD (i := 3) (v := ?_) rfl (by kernel_rfl) (by kernel_rfl) (by kernel_rfl) (fun _ _ _ h => h) (Or.inl ⟨by kernel_rfl, ?_⟩) hS ?_
            rotate_left 1
            · (intro w' hSw; (try dsimp only at hSw); go_simp; try (with_reducible rfl))
            try simp only [Act.put, List.setIfInBounds_toArray, List.set_cons_zero, List.set_cons_succ]
            refine wpAnyH_takeD (i := 4) (v := ?_) rfl (by kernel_rfl) (by kernel_rfl) (by kernel_rfl) (fun _ _ _ h => h) (Or.inl ⟨by kernel_rfl, ?_⟩) hS ?_
            rotate_left 1
            · (intro w' hSw; (try dsimp only at hSw); go_simp; try (with_reducible rfl))
            try simp only [Act.put, List.setIfInBounds_toArray, List.set_cons_zero, List.set_cons_succ]
            refine wpAnyH_takeD (i := 5) (v := ?_) rfl (by kernel_rfl) (by kernel_rfl) (by kernel_rfl) (fun _ _ _ h => h) (Or.inl ⟨by kernel_rfl, ?_⟩) hS ?_
            rotate_left 1
            · (intro w' hSw; (try dsimp only at hSw); go_simp; try (with_reducible rfl))
            try simp only [Act.put, List.setIfInBounds_toArray, List.set_cons_zero, List.set_cons_succ]
            refine wpAnyH_takeD (i := 6) (v := ?_) rfl (by kernel_rfl) (by kernel_rfl) (by kernel_rfl) (fun _ _ _ h => h) (Or.inl ⟨by kernel_rfl, ?_⟩) hS ?_
            rotate_left 1
            · (intro w' hSw; (try dsimp only at hSw); go_simp; try (with_reducible rfl))
            try simp only [Act.put, List.setIfInBounds_toArray, List.set_cons_zero, List.set_cons_succ]
            refine wpAnyH_takeD (i := 7) (v := ?_) rfl (by kernel_rfl) (by kernel_rfl) (by kernel_rfl) (fun _ _ _ h => h) (Or.inl ⟨by kernel_rfl, ?_⟩) hS ?_
            rotate_left 1
            · (intro w' hSw; (try dsimp only at hSw); go_simp; try (with_reducible rfl))
            try simp only [Act.put, List.setIfInBounds_toArray, List.set_cons_zero, List.set_cons_succ]
            refine wpAnyH_takeD (i := 8) (v := ?_) rfl (by kernel_rfl) (by kernel_rfl) (by kernel_rfl) (fun _ _ _ h => h) (Or.inl ⟨by kernel_rfl, ?_⟩) hS ?_
            rotate_left 1
            · (intro w' hSw; (try dsimp only at hSw); go_simp; try (with_reducible rfl))
            try simp only [Act.put, List.setIfInBounds_toArray, List.set_cons_zero, List.set_cons_succ]
            refine wpAnyH_takeD (i := 9) (v := ?_) rfl (by kernel_rfl) (by kernel_rfl) (by kernel_rfl) (fun _ _ _ h => h) (Or.inl ⟨by kernel_rfl, ?_⟩) hS ?_
            rotate_left 1
            · (intro w' hSw; (try dsimp only at hSw); go_simp; try (with_reducible rfl))
            try simp only [Act.put, List.setIfInBounds_toArray, List.set_cons_zero, List.set_cons_succ]
            refine wpAnyH_takeD (i := 10) (v := ?_) rfl (by kernel_rfl) (by kernel_rfl) (by kernel_rfl) (fun _ _ _ h => h) (Or.inl ⟨by kernel_rfl, ?_⟩) hS ?_
            rotate_left 1
            · (intro w' hSw; (try dsimp only at hSw); go_simp; try (with_reducible rfl))
            try simp only [Act.put, List.setIfInBounds_toArray, List.set_cons_zero, List.set_cons_succ]
            refine wpAnyH_takeD (i := 11) (v := ?_) rfl (by kernel_rfl) (by kernel_rfl) (by kernel_rfl) (fun _ _ _ h => h) (Or.inl ⟨by kernel_rfl, ?_⟩) hS ?_
            rotate_left 1
            · (intro w' hSw; (try dsimp only at hSw); go_simp; try (with_reducible rfl))
            try simp only [Act.put, List.setIfInBounds_toArray, List.set_cons_zero, List.set_cons_succ]
            refine wpAnyH_takeD (i := 12) (v := ?_) rfl (by kernel_rfl) (by kernel_rfl) (by kernel_rfl) (fun _ _ _ h => h) (Or.inl ⟨by kernel_rfl, ?_⟩) hS ?_
            rotate_left 1
            · (intro w' hSw; (try dsimp only at hSw); go_simp; try (with_reducible rfl))
            try simp only [Act.put, List.setIfInBounds_toArray, List.set_cons_zero, List.set_cons_succ]
            refine wpAnyH_takeD (i := 13) (v := ?_) rfl (by kernel_rfl) (by kernel_rfl) (by kernel_rfl) (fun _ _ _ h => h) (Or.inl ⟨by kernel_rfl, ?_⟩) hS ?_
            rotate_left 1
            · (intro w' hSw; (try dsimp only at hSw); go_simp; try (with_reducible rfl))
            try simp only [Act.put, List.setIfInBounds_toArray, List.set_cons_zero, List.set_cons_succ]
            refine wpAnyH_takeD (i := 14) (v := ?_) rfl (by kernel_rfl) (by kernel_rfl) (by kernel_rfl) (fun _ _ _ h => h) (Or.inl ⟨by kernel_rfl, ?_⟩) hS ?_
            rotate_left 1
            · (intro w' hSw; (try dsimp only at hSw); go_simp; try (with_reducible rfl))
            try simp only [Act.put, List.setIfInBounds_toArray, List.set_cons_zero, List.set_cons_succ]
            refine wpAnyH_takeD (i := 15) (v := ?_) rfl (by kernel_rfl) (by kernel_rfl) (by kernel_rfl) (fun _ _ _ h => h) (Or.inl ⟨by kernel_rfl, ?_⟩) hS ?_
            rotate_left 1
            · (intro w' hSw; (try dsimp only at hSw); go_simp; try (with_reducible rfl))
            try simp only [Act.put, List.setIfInBounds_toArray, List.set_cons_zero, List.set_cons_succ]
            refine wpAnyH_takeD (i := 16) (v := ?_) rfl (by kernel_rfl) (by kernel_rfl) (by kernel_rfl) (fun _ _ _ h => h) (Or.inl ⟨by kernel_rfl, ?_⟩) hS ?_
            rotate_left 1
            · (intro w' hSw; (try dsimp only at hSw); go_simp; try (with_reducible rfl))
            try simp only [Act.put, List.setIfInBounds_toArray, List.set_cons_zero, List.set_cons_succ]
            refine wpAnyH_takeD (i := 17) (v := ?_) rfl (by kernel_rfl) (by kernel_rfl) (by kernel_rfl) (fun _ _ _ h => h) (Or.inl ⟨by kernel_rfl, ?_⟩) hS ?_
            rotate_left 1
            · (intro w' hSw; (try dsimp only at hSw); go_simp; try (with_reducible rfl))
            try simp only [Act.put, List.setIfInBounds_toArray, List.set_cons_zero, List.set_cons_succ]
            refine wpAnyH_takeD (i := 18) (v := ?_) rfl (by kernel_rfl) (by kernel_rfl) (by kernel_rfl) (fun _ _ _ h => h) (Or.inl ⟨by kernel_rfl, ?_⟩) hS ?_
            rotate_left 1
            · (intro w' hSw; (try dsimp only at hSw); go_simp; try (with_reducible rfl))
            try simp only [Act.put, List.setIfInBounds_toArray, List.set_cons_zero, List.set_cons_succ]
            refine wpAnyH_takeD (i := 19) (v := ?_) rfl (by kernel_rfl) (by kernel_rfl) (by kernel_rfl) (fun _ _ _ h => h) (Or.inl ⟨by kernel_rfl, ?_⟩) hS ?_
            rotate_left 1
            · (intro w' hSw; (try dsimp only at hSw); go_simp; try (with_reducible rfl))
            try simp only [Act.put, List.setIfInBounds_toArray, List.set_cons_zero, List.set_cons_succ]
            refine wpAnyH_takeD (i := 20) (v := ?_) rfl (by kernel_rfl) (by kernel_rfl) (by kernel_rfl) (fun _ _ _ h => h) (Or.inl ⟨by kernel_rfl, ?_⟩) hS ?_
            rotate_left 1
            · (intro w' hSw; (try dsimp only at hSw); go_simp; try (with_reducible rfl))
            try simp only [Act.put, List.setIfInBounds_toArray, List.set_cons_zero, List.set_cons_succ]
            refine wpAnyH_takeD (i := 21) (v := ?_) rfl (by kernel_rfl) (by kernel_rfl) (by kernel_rfl) (fun _ _ _ h => h) (Or.inl ⟨by kernel_rfl, ?_⟩) hS ?_
            rotate_left 1
            · (intro w' hSw; (try dsimp only at hSw); go_simp; try (with_reducible rfl))
            try simp only [Act.put, List.setIfInBounds_toArray, List.set_cons_zero, List.set_cons_succ]
            refine wpAnyH_takeD (i := 22) (v := ?_) rfl (by kernel_rfl) (by kernel_rfl) (by kernel_rfl) (fun _ _ _ h => h) (Or.inl ⟨by kernel_rfl, ?_⟩) hS ?_
            rotate_left 1
            · (intro w' hSw; (try dsimp only at hSw); go_simp; try (with_reducible rfl))
            try simp only [Act.put, List.setIfInBounds_toArray, List.set_cons_zero, List.set_cons_succ]
            refine wpAnyH_takeD (i := 23) (v := ?_) rfl (by kernel_rfl) (by kernel_rfl) (by kernel_rfl) (fun _ _ _ h => h) (Or.inl ⟨by kernel_rfl, ?_⟩) hS ?_
            rotate_left 1
            · (intro w' hSw; (try dsimp only at hSw); go_simp; try (with_reducible rfl))
            try simp only [Act.put, List.setIfInBounds_toArray, List.set_cons_zero, List.set_cons_succ]
            refine wpAnyH_takeD (i := 24) (v := ?_) rfl (by kernel_rfl) (by kernel_rfl) (by kernel_rfl) (fun _ _ _ h => h) (Or.inl ⟨by kernel_rfl, ?_⟩) hS ?_
            rotate_left 1
            · (intro w' hSw; (try dsimp only at hSw); go_simp; try (with_reducible rfl))
            try simp only [Act.put, List.setIfInBounds_toArray, List.set_cons_zero, List.set_cons_succ]
            refine wpAnyH_takeD (i := 25) (v := ?_) rfl (by kernel_rfl) (by kernel_rfl) (by kernel_rfl) (fun _ _ _ h => h) (Or.inl ⟨by kernel_rfl, ?_⟩) hS ?_
            rotate_left 1
            · (intro w' hSw; (try dsimp only at hSw); go_simp; try (with_reducible rfl))
            try simp only [Act.put, List.setIfInBounds_toArray, List.set_cons_zero, List.set_cons_succ]
            refine wpAnyH_oneD (i := 26) rfl (by kernel_rfl) (fun K hK => ?_)
            go_simp
            rw [HWD.out]
            refine Calls.mono (HC1.out wd hbd) ?_
            rintro e w1' ⟨rfl, hq1⟩
            have hb1 : Below wr.heap.size wr w1' := hbd.trans (hq1.mono hbd.size)
            clear hq1
            dsimp only
            refine hK.out _ _ ⟨(hb1.cell (p := ⟨bb, oo + i * 4, none⟩) (show bb < wr.heap.size by omega)).trans p0, (hb1.cell (p := ⟨bb, oo + i * 4 + 1, none⟩) (show bb < wr.heap.size by omega)).trans p1, (hb1.cell (p := ⟨bb, oo + i * 4 + 2, none⟩) (show bb < wr.heap.size by omega)).trans p2, (hb1.cell (p := ⟨bb, oo + i * 4 + 3, none⟩) (show bb < wr.heap.size by omega)).trans p3, (hb1.cell (p := ⟨w.heap.size, 0, none⟩) (show w.heap.size < wr.heap.size by omega)).trans q0, (hb1.cell (p := ⟨w.heap.size, 1, none⟩) (show w.heap.size < wr.heap.size by omega)).trans q1, (hb1.cell (p := ⟨w.heap.size, 2, none⟩) (show w.heap.size < wr.heap.size by omega)).trans q2, (hb1.cell (p := ⟨w.heap.size, 3, none⟩) (show w.heap.size < wr.heap.size by omega)).trans q3⟩ (fun hS => ?_)
            clear hK
            try simp only [Act.put, List.setIfInBounds_toArray, List.set_cons_zero, List.set_cons_succ]
            refine wpAnyH_takeD (i := 27) (v := ?_) rfl (by kernel_rfl) (by kernel_rfl) (by kernel_rfl) (fun _ _ _ h => h) (Or.inl ⟨by kernel_rfl, ?_⟩) hS ?_
            rotate_left 1
            · (intro w' hSw; (try dsimp only at hSw); go_simp; try (with_reducible rfl))
            try simp only [Act.put, List.setIfInBounds_toArray, List.set_cons_zero, List.set_cons_succ]
            refine wpAnyH_takeD (i := 28) (v := ?_) rfl (by kernel_rfl) (by kernel_rfl) (by kernel_rfl) (fun _ _ _ h => h) (Or.inl ⟨by kernel_rfl, ?_⟩) hS ?_
            rotate_left 1
            · (intro w' hSw; (try dsimp only at hSw); go_simp; try (with_reducible rfl))
            try simp only [Act.put, List.setIfInBounds_toArray, List.set_cons_zero, List.set_cons_succ]
            refine wpAnyH_takeD (i := 29) (v := undef) rfl (by kernel_rfl) (by kernel_rfl) (by kernel_rfl) (fun _ _ _ h => h) (Or.inr ⟨by kernel_rfl, rfl⟩) hS ?_
            try simp only [Act.put, List.setIfInBounds_toArray, List.set_cons_zero, List.set_cons_succ]
            refine wpAnyH_takeD (i := 30) (v := undef) rfl (by kernel_rfl) (by kernel_rfl) (by kernel_rfl) (fun _ _ _ h => h) (Or.inr ⟨by kernel_rfl, rfl⟩) hS ?_
            try simp only [Act.put, List.setIfInBounds_toArray, List.set_cons_zero, List.set_cons_succ]
            refine wpAnyH_takeD (i := 31) (v := undef) rfl (by kernel_rfl) (by kernel_rfl) (by kernel_rfl) (fun _ _ _ h => h) (Or.inr ⟨by kernel_rfl, rfl⟩) hS ?_
            try simp only [Act.put, List.setIfInBounds_toArray, List.set_cons_zero, List.set_cons_succ]
            refine wpAnyH_takeD (i := 32) (v := undef) rfl (by kernel_rfl) (by kernel_rfl) (by kernel_rfl) (fun _ _ _ h => h) (Or.inr ⟨by kernel_rfl, rfl⟩) hS ?_
            try simp only [Act.put, List.setIfInBounds_toArray, List.set_cons_zero, List.set_cons_succ]
            refine wpAnyH_takeD (i := 33) (v := undef) rfl (by kernel_rfl) (by kernel_rfl) (by kernel_rfl) (fun _ _ _ h => h) (Or.inr ⟨by kernel_rfl, rfl⟩) hS ?_
            try simp only [Act.put, List.setIfInBounds_toArray, List.set_cons_zero, List.set_cons_succ]
            refine wpAnyH_takeD (i := 34) (v := undef) rfl (by kernel_rfl) (by kernel_rfl) (by kernel_rfl) (fun _ _ _ h => h) (Or.inr ⟨by kernel_rfl, rfl⟩) hS ?_
            try simp only [Act.put, List.setIfInBounds_toArray, List.set_cons_zero, List.set_cons_succ]
            refine wpAnyH_takeD (i := 35) (v := undef) rfl (by kernel_rfl) (by kernel_rfl) (by kernel_rfl) (fun _ _ _ h => h) (Or.inr ⟨by kernel_rfl, rfl⟩) hS ?_
            try simp only [Act.put, List.setIfInBounds_toArray, List.set_cons_zero, List.set_cons_succ]
            refine wpAnyH_takeD (i := 36) (v := undef) rfl (by kernel_rfl) (by kernel_rfl) (by kernel_rfl) (fun _ _ _ h => h) (Or.inr ⟨by kernel_rfl, rfl⟩) hS ?_
            try simp only [Act.put, List.setIfInBounds_toArray, List.set_cons_zero, List.set_cons_succ]
            refine wpAnyH_takeD (i := 37) (v := ?_) rfl (by kernel_rfl) (by kernel_rfl) (by kernel_rfl) (fun _ _ _ h => h) (Or.inl ⟨by kernel_rfl, ?_⟩) hS ?_
            rotate_left 1
            · (intro w' hSw; (try dsimp only at hSw); go_simp; try (with_reducible rfl))
            try simp only [Act.put, List.setIfInBounds_toArray, List.set_cons_zero, List.set_cons_succ]
            refine wpAnyH_done (by kernel_rfl) ?_ _
            go_wp2_with fail
            go_roundw
            case rel => exact ⟨i + 1, by omega, by go_num, hbr.trans (hb1.mono hzr), HE⟩
            case measure => simp [intOf]; omega
        · have m2 : ((x.2.1 : Int) == (d.2.1 : Int)) = false := beq_eq_false_iff_ne.2 (by omega)
          have HE := Lib.hid (HSN.out (fun h => g2 (by rw [h])))
          clear g2
          go_wp2_with fail
          refine wp_region_held_drew (S := fun w' => w'.cell? ⟨bb, oo + i * 4, none⟩ = some (.int .u64 (x.1 : Int)) ∧ w'.cell? ⟨bb, oo + i * 4 + 1, none⟩ = some (.int .u64 (x.2.1 : Int)) ∧ w'.cell? ⟨bb, oo + i * 4 + 2, none⟩ = some (.slice D1 (onL x.2.2.1).length d1) ∧ w'.cell? ⟨bb, oo + i * 4 + 3, none⟩ = some (.slice D2 (onL x.2.2.2).length d2) ∧ w'.cell? ⟨w.heap.size, 0, none⟩ = some (.int .u64 (d.1 : Int)) ∧ w'.cell? ⟨w.heap.size, 1, none⟩ = some (.int .u64 (d.2.1 : Int)) ∧ w'.cell? ⟨w.heap.size, 2, none⟩ = some (.slice E1 (onL d.2.2.1).length e1) ∧ w'.cell? ⟨w.heap.size, 3, none⟩ = some (.slice E2 (onL d.2.2.2).length e2)) (by kernel_rfl) ⟨p0, p1, p2, p3, q0, q1, q2, q3⟩ (fun hS => ?_)
          refine wpAnyH_takeD (i := 0) (v := ?_) rfl (by kernel_rfl) (by kernel_rfl) (by kernel_rfl) (fun _ _ _ h => h) (Or.inl ⟨by kernel_rfl, ?_⟩) hS ?_
          rotate_left 1
          · (intro w' hSw; (try dsimp only at hSw); go_simp; try (with_reducible rfl))
          try simp only [Act.put, List.setIfInBounds_toArray, List.set_cons_zero, List.set_cons_succ]
          refine wpAnyH_takeD (i := 1) (v := ?_) rfl (by kernel_rfl) (by kernel_rfl) (by kernel_rfl) (fun _ _ _ h => h) (Or.inl ⟨by kernel_rfl, ?_⟩) hS ?_
          rotate_left 1
          · (intro w' hSw; (try dsimp only at hSw); go_simp; try (with_reducible rfl))
          try simp only [Act.put, List.setIfInBounds_toArray, List.set_cons_zero, List.set_cons_succ]
          refine wpAnyH_takeD (i := 2) (v := ?_) rfl (by kernel_rfl) (by kernel_rfl) (by kernel_rfl) (fun _ _ _ h => h) (Or.inl ⟨by kernel_rfl, ?_⟩) hS ?_
          rotate_left 1
          · (intro w' hSw; (try dsimp only at hSw); go_simp; try (with_reducible rfl))
          try simp only [Act.put, List.setIfInBounds_toArray, List.set_cons_zero, List.set_cons_succ]
          refine wpAnyH_takeD (i := 3) (v := ?_) rfl (by kernel_rfl) (by kernel_rfl) (by kernel_rfl) (fun _ _ _ h => h) (Or.inl ⟨by kernel_rfl, ?_⟩) hS ?_
          rotate_left 1
          · (intro w' hSw; (try dsimp only at hSw); go_simp; try (with_reducible rfl))
          try simp only [Act.put, List.setIfInBounds_toArray, List.set_cons_zero, List.set_cons_succ]
          refine wpAnyH_takeD (i := 4) (v := ?_) rfl (by kernel_rfl) (by kernel_rfl) (by kernel_rfl) (fun _ _ _ h => h) (Or.inl ⟨by kernel_rfl, ?_⟩) hS ?_
          rotate_left 1
          · (intro w' hSw; (try dsimp only at hSw); go_simp; try (with_reducible rfl))
          try simp only [Act.put, List.setIfInBounds_toArray, List.set_cons_zero, List.set_cons_succ]
          refine wpAnyH_takeD (i := 5) (v := ?_) rfl (by kernel_rfl) (by kernel_rfl) (by kernel_rfl) (fun _ _ _ h => h) (Or.inl ⟨by kernel_rfl, ?_⟩) hS ?_
          rotate_left 1
          · (intro w' hSw; (try dsimp only at hSw); go_simp; try (with_reducible rfl))
          try simp only [Act.put, List.setIfInBounds_toArray, List.set_cons_zero, List.set_cons_succ]
          refine wpAnyH_takeD (i := 6) (v := ?_) rfl (by kernel_rfl) (by kernel_rfl) (by kernel_rfl) (fun _ _ _ h => h) (Or.inl ⟨by kernel_rfl, ?_⟩) hS ?_
          rotate_left 1
          · (intro w' hSw; (try dsimp only at hSw); go_simp; try (with_reducible rfl))
          try simp only [Act.put, List.setIfInBounds_toArray, List.set_cons_zero, List.set_cons_succ]
          refine wpAnyH_takeD (i := 7) (v := ?_) rfl (by kernel_rfl) (by kernel_rfl) (by kernel_rfl) (fun _ _ _ h => h) (Or.inl ⟨by kernel_rfl, ?_⟩) hS ?_
          rotate_left 1
          · (intro w' hSw; (try dsimp only at hSw); go_simp; try (with_reducible rfl))
          try simp only [Act.put, List.setIfInBounds_toArray, List.set_cons_zero, List.set_cons_succ]
          refine wpAnyH_takeD (i := 8) (v := ?_) rfl (by kernel_rfl) (by kernel_rfl) (by kernel_rfl) (fun _ _ _ h => h) (Or.inl ⟨by kernel_rfl, ?_⟩) hS ?_
          rotate_left 1
          · (intro w' hSw; (try dsimp only at hSw); go_simp; try (with_reducible rfl))
          try simp only [Act.put, List.setIfInBounds_toArray, List.set_cons_zero, List.set_cons_succ]
          refine wpAnyH_takeD (i := 9) (v := ?_) rfl (by kernel_rfl) (by kernel_rfl) (by kernel_rfl) (fun _ _ _ h => h) (Or.inl ⟨by kernel_rfl, ?_⟩) hS ?_
          rotate_left 1
          · (intro w' hSw; (try dsimp only at hSw); go_simp; try (with_reducible rfl))
          try simp only [Act.put, List.setIfInBounds_toArray, List.set_cons_zero, List.set_cons_succ]
          refine wpAnyH_takeD (i := 10) (v := ?_) rfl (by kernel_rfl) (by kernel_rfl) (by kernel_rfl) (fun _ _ _ h => h) (Or.inl ⟨by kernel_rfl, ?_⟩) hS ?_
          rotate_left 1
          · (intro w' hSw; (try dsimp only at hSw); go_simp; try (with_reducible rfl))
          try simp only [Act.put, List.setIfInBounds_toArray, List.set_cons_zero, List.set_cons_succ]
          refine wpAnyH_takeD (i := 11) (v := ?_) rfl (by kernel_rfl) (by kernel_rfl) (by kernel_rfl) (fun _ _ _ h => h) (Or.inl ⟨by kernel_rfl, ?_⟩) hS ?_
          rotate_left 1
          · (intro w' hSw; (try dsimp only at hSw); go_simp; try (with_reducible rfl))
          try simp only [Act.put, List.setIfInBounds_toArray, List.set_cons_zero, List.set_cons_succ]
          refine wpAnyH_takeD (i := 12) (v := ?_) rfl (by kernel_rfl) (by kernel_rfl) (by kernel_rfl) (fun _ _ _ h => h) (Or.inl ⟨by kernel_rfl, ?_⟩) hS ?_
          rotate_left 1
          · (intro w' hSw; (try dsimp only at hSw); go_simp; try (with_reducible rfl))
          try simp only [Act.put, List.setIfInBounds_toArray, List.set_cons_zero, List.set_cons_succ]
          refine wpAnyH_takeD (i := 13) (v := ?_) rfl (by kernel_rfl) (by kernel_rfl) (by kernel_rfl) (fun _ _ _ h => h) (Or.inl ⟨by kernel_rfl, ?_⟩) hS ?_
          rotate_left 1
          · (intro w' hSw; (try dsimp only at hSw); go_simp; try (with_reducible rfl))
          try simp only [Act.put, List.setIfInBounds_toArray, List.set_cons_zero, List.set_cons_succ]
          refine wpAnyH_takeD (i := 14) (v := ?_) rfl (by kernel_rfl) (by kernel_rfl) (by kernel_rfl) (fun _ _ _ h => h) (Or.inl ⟨by kernel_rfl, ?_⟩) hS ?_
          rotate_left 1
          · (intro w' hSw; (try dsimp only at hSw); go_simp; try (with_reducible rfl))
          try simp only [Act.put, List.setIfInBounds_toArray, List.set_cons_zero, List.set_cons_succ]
          refine wpAnyH_takeD (i := 15) (v := ?_) rfl (by kernel_rfl) (by kernel_rfl) (by kernel_rfl) (fun _ _ _ h => h) (Or.inl ⟨by kernel_rfl, ?_⟩) hS ?_
          rotate_left 1
          · (intro w' hSw; (try dsimp only at hSw); go_simp; try (with_reducible rfl))
          try simp only [Act.put, List.setIfInBounds_toArray, List.set_cons_zero, List.set_cons_succ]
          refine wpAnyH_takeD (i := 16) (v := ?_) rfl (by kernel_rfl) (by kernel_rfl) (by kernel_rfl) (fun _ _ _ h => h) (Or.inl ⟨by kernel_rfl, ?_⟩) hS ?_
          rotate_left 1
          · (intro w' hSw; (try dsimp only at hSw); go_simp; try (with_reducible rfl))
          try simp only [Act.put, List.setIfInBounds_toArray, List.set_cons_zero, List.set_cons_succ]
          refine wpAnyH_takeD (i := 17) (v := ?_) rfl (by kernel_rfl) (by kernel_rfl) (by kernel_rfl) (fun _ _ _ h => h) (Or.inl ⟨by kernel_rfl, ?_⟩) hS ?_
          rotate_left 1
          · (intro w' hSw; (try dsimp only at hSw); go_simp; try (with_reducible rfl))
          try simp only [Act.put, List.setIfInBounds_toArray, List.set_cons_zero, List.set_cons_succ]
          refine wpAnyH_takeD (i := 18) (v := ?_) rfl (by kernel_rfl) (by kernel_rfl) (by kernel_rfl) (fun _ _ _ h => h) (Or.inl ⟨by kernel_rfl, ?_⟩) hS ?_
          rotate_left 1
          · (intro w' hSw; (try dsimp only at hSw); go_simp; try (with_reducible rfl))
          try simp only [Act.put, List.setIfInBounds_toArray, List.set_cons_zero, List.set_cons_succ]
          refine wpAnyH_takeD (i := 19) (v := undef) rfl (by kernel_rfl) (by kernel_rfl) (by kernel_rfl) (fun _ _ _ h => h) (Or.inr ⟨by kernel_rfl, rfl⟩) hS ?_
          try simp only [Act.put, List.setIfInBounds_toArray, List.set_cons_zero, List.set_cons_succ]
          refine wpAnyH_takeD (i := 20) (v := undef) rfl (by kernel_rfl) (by kernel_rfl) (by kernel_rfl) (fun _ _ _ h => h) (Or.inr ⟨by kernel_rfl, rfl⟩) hS ?_
          try simp only [Act.put, List.setIfInBounds_toArray, List.set_cons_zero, List.set_cons_succ]
          refine wpAnyH_takeD (i := 21) (v := undef) rfl (by kernel_rfl) (by kernel_rfl) (by kernel_rfl) (fun _ _ _ h => h) (Or.inr ⟨by kernel_rfl, rfl⟩) hS ?_
          try simp only [Act.put, List.setIfInBounds_toArray, List.set_cons_zero, List.set_cons_succ]
          refine wpAnyH_takeD (i := 22) (v := undef) rfl (by kernel_rfl) (by kernel_rfl) (by kernel_rfl) (fun _ _ _ h => h) (Or.inr ⟨by kernel_rfl, rfl⟩) hS ?_
          try simp only [Act.put, List.setIfInBounds_toArray, List.set_cons_zero, List.set_cons_succ]
          refine wpAnyH_takeD (i := 23) (v := undef) rfl (by kernel_rfl) (by kernel_rfl) (by kernel_rfl) (fun _ _ _ h => h) (Or.inr ⟨by kernel_rfl, rfl⟩) hS ?_
          try simp only [Act.put, List.setIfInBounds_toArray, List.set_cons_zero, List.set_cons_succ]
          refine wpAnyH_takeD (i := 24) (v := undef) rfl (by kernel_rfl) (by kernel_rfl) (by kernel_rfl) (fun _ _ _ h => h) (Or.inr ⟨by kernel_rfl, rfl⟩) hS ?_
          try simp only [Act.put, List.setIfInBounds_toArray, List.set_cons_zero, List.set_cons_succ]
          refine wpAnyH_takeD (i := 25) (v := undef) rfl (by kernel_rfl) (by kernel_rfl) (by kernel_rfl) (fun _ _ _ h => h) (Or.inr ⟨by kernel_rfl, rfl⟩) hS ?_
          try simp only [Act.put, List.setIfInBounds_toArray, List.set_cons_zero, List.set_cons_succ]
          refine wpAnyH_takeD (i := 26) (v := undef) rfl (by kernel_rfl) (by kernel_rfl) (by kernel_rfl) (fun _ _ _ h => h) (Or.inr ⟨by kernel_rfl, rfl⟩) hS ?_
          try simp only [Act.put, List.setIfInBounds_toArray, List.set_cons_zero, List.set_cons_succ]
          refine wpAnyH_takeD (i := 27) (v := ?_) rfl (by kernel_rfl) (by kernel_rfl) (by kernel_rfl) (fun _ _ _ h => h) (Or.inl ⟨by kernel_rfl, ?_⟩) hS ?_
          rotate_left 1
          · (intro w' hSw; (try dsimp only at hSw); go_simp; try (with_reducible rfl))
          try simp only [Act.put, List.setIfInBounds_toArray, List.set_cons_zero, List.set_cons_succ]
          refine wpAnyH_takeD (i := 28) (v := ?_) rfl (by kernel_rfl) (by kernel_rfl) (by kernel_rfl) (fun _ _ _ h => h) (Or.inl ⟨by kernel_rfl, ?_⟩) hS ?_
          rotate_left 1
          · (intro w' hSw; (try dsimp only at hSw); go_simp; try (with_reducible rfl))
          try simp only [Act.put, List.setIfInBounds_toArray, List.set_cons_zero, List.set_cons_succ]
          refine wpAnyH_takeD (i := 29) (v := undef) rfl (by kernel_rfl) (by kernel_rfl) (by kernel_rfl) (fun _ _ _ h => h) (Or.inr ⟨by kernel_rfl, rfl⟩) hS ?_
          try simp only [Act.put, List.setIfInBounds_toArray, List.set_cons_zero, List.set_cons_succ]
          refine wpAnyH_takeD (i := 30) (v := undef) rfl (by kernel_rfl) (by kernel_rfl) (by kernel_rfl) (fun _ _ _ h => h) (Or.inr ⟨by kernel_rfl, rfl⟩) hS ?_
          try simp only [Act.put, List.setIfInBounds_toArray, List.set_cons_zero, List.set_cons_succ]
          refine wpAnyH_takeD (i := 31) (v := undef) rfl (by kernel_rfl) (by kernel_rfl) (by kernel_rfl) (fun _ _ _ h => h) (Or.inr ⟨by kernel_rfl, rfl⟩) hS ?_
          try simp only [Act.put, List.setIfInBounds_toArray, List.set_cons_zero, List.set_cons_succ]
          refine wpAnyH_takeD (i := 32) (v := undef) rfl (by kernel_rfl) (by kernel_rfl) (by kernel_rfl) (fun _ _ _ h => h) (Or.inr ⟨by kernel_rfl, rfl⟩) hS ?_
          try simp only [Act.put, List.setIfInBounds_toArray, List.set_cons_zero, List.set_cons_succ]
          refine wpAnyH_takeD (i := 33) (v := undef) rfl (by kernel_rfl) (by kernel_rfl) (by kernel_rfl) (fun _ _ _ h => h) (Or.inr ⟨by kernel_rfl, rfl⟩) hS ?_
          try simp only [Act.put, List.setIfInBounds_toArray, List.set_cons_zero, List.set_cons_succ]
          refine wpAnyH_takeD (i := 34) (v := undef) rfl (by kernel_rfl) (by kernel_rfl) (by kernel_rfl) (fun _ _ _ h => h) (Or.inr ⟨by kernel_rfl, rfl⟩) hS ?_
          try simp only [Act.put, List.setIfInBounds_toArray, List.set_cons_zero, List.set_cons_succ]
          refine wpAnyH_takeD (i := 35) (v := undef) rfl (by kernel_rfl) (by kernel_rfl) (by kernel_rfl) (fun _ _ _ h => h) (Or.inr ⟨by kernel_rfl, rfl⟩) hS ?_
          try simp only [Act.put, List.setIfInBounds_toArray, List.set_cons_zero, List.set_cons_succ]
          refine wpAnyH_takeD (i := 36) (v := undef) rfl (by kernel_rfl) (by kernel_rfl) (by kernel_rfl) (fun _ _ _ h => h) (Or.inr ⟨by kernel_rfl, rfl⟩) hS ?_
          try simp only [Act.put, List.setIfInBounds_toArray, List.set_cons_zero, List.set_cons_succ]
          refine wpAnyH_takeD (i := 37) (v := ?_) rfl (by kernel_rfl) (by kernel_rfl) (by kernel_rfl) (fun _ _ _ h => h) (Or.inl ⟨by kernel_rfl, ?_⟩) hS ?_
          rotate_left 1
          · (intro w' hSw; (try dsimp only at hSw); go_simp; try (with_reducible rfl))
          try simp only [Act.put, List.setIfInBounds_toArray, List.set_cons_zero, List.set_cons_succ]
          refine wpAnyH_done (by kernel_rfl) ?_ _
          go_wp2_with fail
          go_roundw
          case rel => exact ⟨i + 1, by omega, by go_num, hbr.trans (((Below.refl _ _).drew).mono hzr), HE⟩
          case measure => simp [intOf]; omega
      · have m1 : ((x.1 : Int) == (d.1 : Int)) = false := beq_eq_false_iff_ne.2 (by omega)
        have HE := Lib.hid (HSN.out (fun h => g1 (by rw [h])))
        clear g1
        go_wp2_with fail
        refine wp_region_held_drew (S := fun w' => w'.cell? ⟨bb, oo + i * 4, none⟩ = some (.int .u64 (x.1 : Int)) ∧ w'.cell? ⟨bb, oo + i * 4 + 1, none⟩ = some (.int .u64 (x.2.1 : Int)) ∧ w'.cell? ⟨bb, oo + i * 4 + 2, none⟩ = some (.slice D1 (onL x.2.2.1).length d1) ∧ w'.cell? ⟨bb, oo + i * 4 + 3, none⟩ = some (.slice D2 (onL x.2.2.2).length d2) ∧ w'.cell? ⟨w.heap.size, 0, none⟩ = some (.int .u64 (d.1 : Int)) ∧ w'.cell? ⟨w.heap.size, 1, none⟩ = some (.int .u64 (d.2.1 : Int)) ∧ w'.cell? ⟨w.heap.size, 2, none⟩ = some (.slice E1 (onL d.2.2.1).length e1) ∧ w'.cell? ⟨w.heap.size, 3, none⟩ = some (.slice E2 (onL d.2.2.2).length e2)) (by kernel_rfl) ⟨p0, p1, p2, p3, q0, q1, q2, q3⟩ (fun hS => ?_)
        refine wpAnyH_takeD (i := 0) (v := ?_) rfl (by kernel_rfl) (by kernel_rfl) (by kernel_rfl) (fun _ _ _ h => h) (Or.inl ⟨by kernel_rfl, ?_⟩) hS ?_
        rotate_left 1
        · (intro w' hSw; (try dsimp only at hSw); go_simp; try (with_reducible rfl))
        try simp only [Act.put, List.setIfInBounds_toArray, List.set_cons_zero, List.set_cons_succ]
        refine wpAnyH_takeD (i := 1) (v := ?_) rfl (by kernel_rfl) (by kernel_rfl) (by kernel_rfl) (fun _ _ _ h => h) (Or.inl ⟨by kernel_rfl, ?_⟩) hS ?_
        rotate_left 1
        · (intro w' hSw; (try dsimp only at hSw); go_simp; try (with_reducible rfl))
        try simp only [Act.put, List.setIfInBounds_toArray, List.set_cons_zero, List.set_cons_succ]
        refine wpAnyH_takeD (i := 2) (v := ?_) rfl (by kernel_rfl) (by kernel_rfl) (by kernel_rfl) (fun _ _ _ h => h) (Or.inl ⟨by kernel_rfl, ?_⟩) hS ?_
        rotate_left 1
        · (intro w' hSw; (try dsimp only at hSw); go_simp; try (with_reducible rfl))
        try simp only [Act.put, List.setIfInBounds_toArray, List.set_cons_zero, List.set_cons_succ]
        refine wpAnyH_takeD (i := 3) (v := ?_) rfl (by kernel_rfl) (by kernel_rfl) (by kernel_rfl) (fun _ _ _ h => h) (Or.inl ⟨by kernel_rfl, ?_⟩) hS ?_
        rotate_left 1
        · (intro w' hSw; (try dsimp only at hSw); go_simp; try (with_reducible rfl))
        try simp only [Act.put, List.setIfInBounds_toArray, List.set_cons_zero, List.set_cons_succ]
        refine wpAnyH_takeD (i := 4) (v := ?_) rfl (by kernel_rfl) (by kernel_rfl) (by kernel_rfl) (fun _ _ _ h => h) (Or.inl ⟨by kernel_rfl, ?_⟩) hS ?_
        rotate_left 1
        · (intro w' hSw; (try dsimp only at hSw); go_simp; try (with_reducible rfl))
        try simp only [Act.put, List.setIfInBounds_toArray, List.set_cons_zero, List.set_cons_succ]
        refine wpAnyH_takeD (i := 5) (v := ?_) rfl (by kernel_rfl) (by kernel_rfl) (by kernel_rfl) (fun _ _ _ h => h) (Or.inl ⟨by kernel_rfl, ?_⟩) hS ?_
        rotate_left 1
        · (intro w' hSw; (try dsimp only at hSw); go_simp; try (with_reducible rfl))
        try simp only [Act.put, List.setIfInBounds_toArray, List.set_cons_zero, List.set_cons_succ]
        refine wpAnyH_takeD (i := 6) (v := ?_) rfl (by kernel_rfl) (by kernel_rfl) (by kernel_rfl) (fun _ _ _ h => h) (Or.inl ⟨by kernel_rfl, ?_⟩) hS ?_
        rotate_left 1
        · (intro w' hSw; (try dsimp only at hSw); go_simp; try (with_reducible rfl))
        try simp only [Act.put, List.setIfInBounds_toArray, List.set_cons_zero, List.set_cons_succ]
        refine wpAnyH_takeD (i := 7) (v := ?_) rfl (by kernel_rfl) (by kernel_rfl) (by kernel_rfl) (fun _ _ _ h => h) (Or.inl ⟨by kernel_rfl, ?_⟩) hS ?_
        rotate_left 1
        · (intro w' hSw; (try dsimp only at hSw); go_simp; try (with_reducible rfl))
        try simp only [Act.put, List.setIfInBounds_toArray, List.set_cons_zero, List.set_cons_succ]
        refine wpAnyH_takeD (i := 8) (v := ?_) rfl (by kernel_rfl) (by kernel_rfl) (by kernel_rfl) (fun _ _ _ h => h) (Or.inl ⟨by kernel_rfl, ?_⟩) hS ?_
        rotate_left 1
        · (intro w' hSw; (try dsimp only at hSw); go_simp; try (with_reducible rfl))
        try simp only [Act.put, List.setIfInBounds_toArray, List.set_cons_zero, List.set_cons_succ]
        refine wpAnyH_takeD (i := 9) (v := undef) rfl (by kernel_rfl) (by kernel_rfl) (by kernel_rfl) (fun _ _ _ h => h) (Or.inr ⟨by kernel_rfl, rfl⟩) hS ?_
        try simp only [Act.put, List.setIfInBounds_toArray, List.set_cons_zero, List.set_cons_succ]
        refine wpAnyH_takeD (i := 10) (v := undef) rfl (by kernel_rfl) (by kernel_rfl) (by kernel_rfl) (fun _ _ _ h => h) (Or.inr ⟨by kernel_rfl, rfl⟩) hS ?_
        try simp only [Act.put, List.setIfInBounds_toArray, List.set_cons_zero, List.set_cons_succ]
        refine wpAnyH_takeD (i := 11) (v := undef) rfl (by kernel_rfl) (by kernel_rfl) (by kernel_rfl) (fun _ _ _ h => h) (Or.inr ⟨by kernel_rfl, rfl⟩) hS ?_
        try simp only [Act.put, List.setIfInBounds_toArray, List.set_cons_zero, List.set_cons_succ]
        refine wpAnyH_takeD (i := 12) (v := undef) rfl (by kernel_rfl) (by kernel_rfl) (by kernel_rfl) (fun _ _ _ h => h) (Or.inr ⟨by kernel_rfl, rfl⟩) hS ?_
        try simp only [Act.put, List.setIfInBounds_toArray, List.set_cons_zero, List.set_cons_succ]
        refine wpAnyH_takeD (i := 13) (v := undef) rfl (by kernel_rfl) (by kernel_rfl) (by kernel_rfl) (fun _ _ _ h => h) (Or.inr ⟨by kernel_rfl, rfl⟩) hS ?_
        try simp only [Act.put, List.setIfInBounds_toArray, List.set_cons_zero, List.set_cons_succ]
        refine wpAnyH_takeD (i := 14) (v := undef) rfl (by kernel_rfl) (by kernel_rfl) (by kernel_rfl) (fun _ _ _ h => h) (Or.inr ⟨by kernel_rfl, rfl⟩) hS ?_
        try simp only [Act.put, List.setIfInBounds_toArray, List.set_cons_zero, List.set_cons_succ]
        refine wpAnyH_takeD (i := 15) (v := undef) rfl (by kernel_rfl) (by kernel_rfl) (by kernel_rfl) (fun _ _ _ h => h) (Or.inr ⟨by kernel_rfl, rfl⟩) hS ?_
        try simp only [Act.put, List.setIfInBounds_toArray, List.set_cons_zero, List.set_cons_succ]
        refine wpAnyH_takeD (i := 16) (v := undef) rfl (by kernel_rfl) (by kernel_rfl) (by kernel_rfl) (fun _ _ _ h => h) (Or.inr ⟨by kernel_rfl, rfl⟩) hS ?_
        try simp only [Act.put, List.setIfInBounds_toArray, List.set_cons_zero, List.set_cons_succ]
        refine wpAnyH_takeD (i := 17) (v := ?_) rfl (by kernel_rfl) (by kernel_rfl) (by kernel_rfl) (fun _ _ _ h => h) (Or.inl ⟨by kernel_rfl, ?_⟩) hS ?_
        rotate_left 1
        · (intro w' hSw; (try dsimp only at hSw); go_simp; try (with_reducible rfl))
        try simp only [Act.put, List.setIfInBounds_toArray, List.set_cons_zero, List.set_cons_succ]
        refine wpAnyH_takeD (i := 18) (v := ?_) rfl (by kernel_rfl) (by kernel_rfl) (by kernel_rfl) (fun _ _ _ h => h) (Or.inl ⟨by kernel_rfl, ?_⟩) hS ?_
        rotate_left 1
        · (intro w' hSw; (try dsimp only at hSw); go_simp; try (with_reducible rfl))
        try simp only [Act.put, List.setIfInBounds_toArray, List.set_cons_zero, List.set_cons_succ]
        refine wpAnyH_takeD (i := 19) (v := undef) rfl (by kernel_rfl) (by kernel_rfl) (by kernel_rfl) (fun _ _ _ h => h) (Or.inr ⟨by kernel_rfl, rfl⟩) hS ?_
        try simp only [Act.put, List.setIfInBounds_toArray, List.set_cons_zero, List.set_cons_succ]
        refine wpAnyH_takeD (i := 20) (v := undef) rfl (by kernel_rfl) (by kernel_rfl) (by kernel_rfl) (fun _ _ _ h => h) (Or.inr ⟨by kernel_rfl, rfl⟩) hS ?_
        try simp only [Act.put, List.setIfInBounds_toArray, List.set_cons_zero, List.set_cons_succ]
        refine wpAnyH_takeD (i := 21) (v := undef) rfl (by kernel_rfl) (by kernel_rfl) (by kernel_rfl) (fun _ _ _ h => h) (Or.inr ⟨by kernel_rfl, rfl⟩) hS ?_
        try simp only [Act.put, List.setIfInBounds_toArray, List.set_cons_zero, List.set_cons_succ]
        refine wpAnyH_takeD (i := 22) (v := undef) rfl (by kernel_rfl) (by kernel_rfl) (by kernel_rfl) (fun _ _ _ h => h) (Or.inr ⟨by kernel_rfl, rfl⟩) hS ?_
        try simp only [Act.put, List.setIfInBounds_toArray, List.set_cons_zero, List.set_cons_succ]
        refine wpAnyH_takeD (i := 23) (v := undef) rfl (by kernel_rfl) (by kernel_rfl) (by kernel_rfl) (fun _ _ _ h => h) (Or.inr ⟨by kernel_rfl, rfl⟩) hS ?_
        try simp only [Act.put, List.setIfInBounds_toArray, List.set_cons_zero, List.set_cons_succ]
        refine wpAnyH_takeD (i := 24) (v := undef) rfl (by kernel_rfl) (by kernel_rfl) (by kernel_rfl) (fun _ _ _ h => h) (Or.inr ⟨by kernel_rfl, rfl⟩) hS ?_
        try simp only [Act.put, List.setIfInBounds_toArray, List.set_cons_zero, List.set_cons_succ]
        refine wpAnyH_takeD (i := 25) (v := undef) rfl (by kernel_rfl) (by kernel_rfl) (by kernel_rfl) (fun _ _ _ h => h) (Or.inr ⟨by kernel_rfl, rfl⟩) hS ?_
        try simp only [Act.put, List.setIfInBounds_toArray, List.set_cons_zero, List.set_cons_succ]
        refine wpAnyH_takeD (i := 26) (v := undef) rfl (by kernel_rfl) (by kernel_rfl) (by kernel_rfl) (fun _ _ _ h => h) (Or.inr ⟨by kernel_rfl, rfl⟩) hS ?_
        try simp only [Act.put, List.setIfInBounds_toArray, List.set_cons_zero, List.set_cons_succ]
        refine wpAnyH_takeD (i := 27) (v := ?_) rfl (by kernel_rfl) (by kernel_rfl) (by kernel_rfl) (fun _ _ _ h => h) (Or.inl ⟨by kernel_rfl, ?_⟩) hS ?_
        rotate_left 1
        · (intro w' hSw; (try dsimp only at hSw); go_simp; try (with_reducible rfl))
        try simp only [Act.put, List.setIfInBounds_toArray, List.set_cons_zero, List.set_cons_succ]
        refine wpAnyH_takeD (i := 28) (v := ?_) rfl (by kernel_rfl) (by kernel_rfl) (by kernel_rfl) (fun _ _ _ h => h) (Or.inl ⟨by kernel_rfl, ?_⟩) hS ?_
        rotate_left 1
        · (intro w' hSw; (try dsimp only at hSw); go_simp; try (with_reducible rfl))
        try simp only [Act.put, List.setIfInBounds_toArray, List.set_cons_zero, List.set_cons_succ]
        refine wpAnyH_takeD (i := 29) (v := undef) rfl (by kernel_rfl) (by kernel_rfl) (by kernel_rfl) (fun _ _ _ h => h) (Or.inr ⟨by kernel_rfl, rfl⟩) hS ?_
        try simp only [Act.put, List.setIfInBounds_toArray, List.set_cons_zero, List.set_cons_succ]
        refine wpAnyH_takeD (i := 30) (v := undef) rfl (by kernel_rfl) (by kernel_rfl) (by kernel_rfl) (fun _ _ _ h => h) (Or.inr ⟨by kernel_rfl, rfl⟩) hS ?_
        try simp only [Act.put, List.setIfInBounds_toArray, List.set_cons_zero, List.set_cons_succ]
        refine wpAnyH_takeD (i := 31) (v := undef) rfl (by kernel_rfl) (by kernel_rfl) (by kernel_rfl) (fun _ _ _ h => h) (Or.inr ⟨by kernel_rfl, rfl⟩) hS ?_
        try simp only [Act.put, List.setIfInBounds_toArray, List.set_cons_zero, List.set_cons_succ]
        refine wpAnyH_takeD (i := 32) (v := undef) rfl (by kernel_rfl) (by kernel_rfl) (by kernel_rfl) (fun _ _ _ h => h) (Or.inr ⟨by kernel_rfl, rfl⟩) hS ?_
        try simp only [Act.put, List.setIfInBounds_toArray, List.set_cons_zero, List.set_cons_succ]
        refine wpAnyH_takeD (i := 33) (v := undef) rfl (by kernel_rfl) (by kernel_rfl) (by kernel_rfl) (fun _ _ _ h => h) (Or.inr ⟨by kernel_rfl, rfl⟩) hS ?_
        try simp only [Act.put, List.setIfInBounds_toArray, List.set_cons_zero, List.set_cons_succ]
        refine wpAnyH_takeD (i := 34) (v := undef) rfl (by kernel_rfl) (by kernel_rfl) (by kernel_rfl) (fun _ _ _ h => h) (Or.inr ⟨by kernel_rfl, rfl⟩) hS ?_
        try simp only [Act.put, List.setIfInBounds_toArray, List.set_cons_zero, List.set_cons_succ]
        refine wpAnyH_takeD (i := 35) (v := undef) rfl (by kernel_rfl) (by kernel_rfl) (by kernel_rfl) (fun _ _ _ h => h) (Or.inr ⟨by kernel_rfl, rfl⟩) hS ?_
        try simp only [Act.put, List.setIfInBounds_toArray, List.set_cons_zero, List.set_cons_succ]
        refine wpAnyH_takeD (i := 36) (v := undef) rfl (by kernel_rfl) (by kernel_rfl) (by kernel_rfl) (fun _ _ _ h => h) (Or.inr ⟨by kernel_rfl, rfl⟩) hS ?_
        try simp only [Act.put, List.setIfInBounds_toArray, List.set_cons_zero, List.set_cons_succ]
        refine wpAnyH_takeD (i := 37) (v := ?_) rfl (by kernel_rfl) (by kernel_rfl) (by kernel_rfl) (fun _ _ _ h => h) (Or.inl ⟨by kernel_rfl, ?_⟩) hS ?_
        rotate_left 1
        · (intro w' hSw; (try dsimp only at hSw); go_simp; try (with_reducible rfl))
        try simp only [Act.put, List.setIfInBounds_toArray, List.set_cons_zero, List.set_cons_succ]
        refine wpAnyH_done (by kernel_rfl) ?_ _
        go_wp2_with fail
        go_roundw
        case rel => exact ⟨i + 1, by omega, by go_num, hbr.trans (((Below.refl _ _).drew).mono hzr), HE⟩
        case measure => simp [intOf]; omega
    · have hin : i = L.length := by omega
      subst hin
      have HE : Hid (findN L d = -1) := Lib.hid (by
        have h := HQ.out
        rw [List.take_length] at h
        unfold findN; rw [if_neg h])
      go_wp2_with fail
      go_ret
      exact ⟨by rw [HE.out]; rfl, hb0.trans (hbr.mono (by omega))⟩
end Go.Proofs.YtamhjgkigjpbhaaDoor

/- (XRf2) The walk of layer 29's reference: add. -/
namespace Go.Proofs.YtamhjgkigjpbhaaDoor
open Go.RowKit Go.Maps

/-- Covers in a row, their numbers below B. -/
def CovsB (B : Nat) (w : World) (xs : List Value) (outs : List Cov) : Prop :=
  ∀ (k : Nat) (c : Cov), outs[k]? = some c → ∃ A1 c1 A2 c2, xs[k * 4]? = some (.int .u64 (c.1 : Int)) ∧ xs[k * 4 + 1]? = some (.int .u64 (c.2.1 : Int)) ∧
    xs[k * 4 + 2]? = some (.slice A1 (onL c.2.2.1).length c1) ∧ xs[k * 4 + 3]? = some (.slice A2 (onL c.2.2.2).length c2) ∧ CovRd B w c A1 c1 A2 c2
theorem CovsB.of {w : World} {xs : List Value} {T : List Cov} (h : CovsAt w xs T) : CovsB w.heap.size w xs T := by
  intro k c hk
  obtain ⟨A1, c1, A2, c2, e0, e1, e2, e3, t1, t2⟩ := h k c hk
  exact ⟨A1, c1, A2, c2, e0, e1, e2, e3, TSb.of t1, TSb.of t2⟩
theorem CovsB.at_ {B : Nat} {w : World} {xs : List Value} {T : List Cov} (h : CovsB B w xs T) : CovsAt w xs T := by
  intro k c hk
  obtain ⟨A1, c1, A2, c2, e0, e1, e2, e3, t1, t2⟩ := h k c hk
  exact ⟨A1, c1, A2, c2, e0, e1, e2, e3, t1.t, t2.t⟩
theorem CovsB.keep {S : Nat → Prop} {B : Nat} {w w' : World} {xs : List Value} {T : List Cov} (h : CovsB B w xs T) (ht : Tch S w w') (hi : SpB S w B) : CovsB B w' xs T := by
  intro k c hk
  obtain ⟨A1, c1, A2, c2, e0, e1, e2, e3, t⟩ := h k c hk
  exact ⟨A1, c1, A2, c2, e0, e1, e2, e3, t.keep ht hi⟩
theorem CovsB.below {B : Nat} {w w' : World} {xs : List Value} {T : List Cov} (h : CovsB B w xs T) (hb : Below w.heap.size w w') : CovsB B w' xs T := h.keep (Tch.of_below hb) (SpB.of (spares_new w _))
theorem CovsB.push {B : Nat} {w : World} {xs : List Value} {outs : List Cov} (h : CovsB B w xs outs) (hl : xs.length = outs.length * 4) (c : Cov) {A1 A2 : Option Addr} {c1 c2 : Nat} (t : CovRd B w c A1 c1 A2 c2) :
    CovsB B w (xs ++ [.int .u64 (c.1 : Int), .int .u64 (c.2.1 : Int), .slice A1 (onL c.2.2.1).length c1, .slice A2 (onL c.2.2.2).length c2]) (outs ++ [c]) := by
  intro k d hk
  by_cases hlt : k < outs.length
  · rw [List.getElem?_append_left hlt] at hk
    obtain ⟨A1, c1, A2, c2, e0, e1, e2, e3, t⟩ := h k d hk
    refine ⟨A1, c1, A2, c2, ?_, ?_, ?_, ?_, t⟩ <;> (rw [List.getElem?_append_left (by omega)]; assumption)
  · have hkl : k = outs.length := by
      have := (List.getElem?_eq_some_iff.1 hk).1
      simp at this; omega
    subst hkl
    simp at hk
    subst hk
    refine ⟨A1, c1, A2, c2, ?_, ?_, ?_, ?_, t⟩
    · rw [List.getElem?_append_right (by omega), hl, show outs.length * 4 - outs.length * 4 = 0 by omega]; rfl
    · rw [List.getElem?_append_right (by omega), hl, show outs.length * 4 + 1 - outs.length * 4 = 1 by omega]; rfl
    · rw [List.getElem?_append_right (by omega), hl, show outs.length * 4 + 2 - outs.length * 4 = 2 by omega]; rfl
    · rw [List.getElem?_append_right (by omega), hl, show outs.length * 4 + 3 - outs.length * 4 = 3 by omega]; rfl
/-- A row of covers, read, from a block of covers. -/
def RowB (B : Nat) (w : World) (T : List Cov) (v : Value) : Prop :=
  ∃ A c xs, v = .slice A T.length c ∧ Sl w w.heap.size 4 A T.length c xs ∧ (∀ a, A = some a → ∃ cs, w.heap[a.block]? = some (.cells cs 62 (0, 0))) ∧ CovsB B w xs T
theorem RowB.keep {S : Nat → Prop} {B : Nat} {w w' : World} {T : List Cov} {v : Value} (h : RowB B w T v) (ht : Tch S w w') (hS : Spares S w 62) (hi : SpB S w B) : RowB B w' T v := by
  obtain ⟨A, c, xs, hv, h1, ty, h2⟩ := h
  have hb : ∀ a, A = some a → w'.heap[a.block]? = w.heap[a.block]? := fun a ha => by
    obtain ⟨cs, hc⟩ := ty a ha
    exact ht.block _ (heap_lt hc) (hS _ _ hc)
  refine ⟨A, c, xs, hv, ⟨h1.len, h1.cap, h1.max, h1.nil, ?_⟩, fun a ha => ?_, h2.keep ht hi⟩
  · rcases h1.rd with h0 | ⟨b, off, hA, hlt, hc⟩
    · exact .inl h0
    · exact .inr ⟨b, off, hA, Nat.lt_of_lt_of_le hlt ht.size, fun j u hj => (cell_of_blk (hb _ hA)).trans (hc j u hj)⟩
  · obtain ⟨cs, hc⟩ := ty a ha
    exact ⟨cs, (hb a ha).trans hc⟩
theorem RowB.below {B : Nat} {w w' : World} {T : List Cov} {v : Value} (h : RowB B w T v) (hb : Below w.heap.size w w') : RowB B w' T v := h.keep (Tch.of_below hb) (spares_new w _) (SpB.of (spares_new w _))
theorem RowB.of_own {base B : Nat} {w : World} {T : List Cov} {v : Value} {xs : List Value} {n : Nat} (ho : w.ownsRow base 62 4 v n xs) (hn : n = T.length) (hc : CovsB B w xs T) : RowB B w T v := by
  subst hn
  obtain ⟨A, c, hv, hs⟩ := own_sl ho
  refine ⟨A, c, xs, hv, hs, fun a ha => ?_, hc⟩
  rcases ho.2 with ⟨h0, _⟩ | ⟨g, cap, cur, h0, _, hg, _⟩
  · rw [h0, ha] at hv; cases hv
  · rw [h0, ha] at hv; cases hv; exact ⟨cur, hg⟩
theorem RowB.nil (B : Nat) (w : World) : RowB B w [] (.slice none 0 0) := RowB.of_own (World.ownsRow_nil w 0 _ 4) rfl (fun k c h => by simp at h)
/-- What the loop of add keeps. -/
structure RA (w : World) (L M : List Cov) (i : Nat) (u0 u6 : Value) (wr : World) : Prop where
  row : RowB w.heap.size wr (onceC (M.take i) L) u0
  nums : wr.ownsRow w.heap.size 3 1 u6 (rowL (onceC (M.take i) L) (M.take i)).length (icells (natI (rowL (onceC (M.take i) L) (M.take i))))
  bel : Below w.heap.size w wr
/-- What find and the new row leave. -/
def ACut (B : Nat) (T : List Cov) (n : Nat) (w5 : World) (l k : Value) (wF : World) : Prop := k = .int .i64 (n : Int) ∧ RowB B wF T l ∧ Below w5.heap.size w5 wF
/-- What add answers. -/
def AddPost (w : World) (L M : List Cov) (en : Ending) (w' : World) : Prop :=
  ∃ v A c, en = .returned (.tuple #[v, .slice A (rowL (onceC M L) M).length c]) ∧ RowB w.heap.size w' (onceC M L) v ∧ TSl w' 3 A (rowL (onceC M L) M).length c (icells (natI (rowL (onceC M L) M))) ∧ Below w.heap.size w w'
set_option maxHeartbeats 8000000 in
set_option maxRecDepth 100000 in
theorem addR_any (N : Nat) (L M : List Cov) (v0 : Value) (A2 : Option Addr) (c2 : Nat) (ys : List Value) (w : World) (hL : RowB w.heap.size w L v0) (h2 : Sl w w.heap.size 4 A2 M.length c2 ys) (hM : CovsAt w ys M) (hnd : M.Nodup)
    (hok1 : ∀ x ∈ L, CovOk N x) (hok2 : ∀ x ∈ M, CovOk N x) (hN : N ≤ 1000) (hl1 : L.length ≤ 1000) (hl2 : M.length ≤ 10000) :
    Calls Tryd.prog 23 #[v0, .slice A2 M.length c2] w (AddPost w L M) := by
  have HL := Lib.hid hL
  have H2 := Lib.hid h2
  have HM := Lib.hid hM
  have HND := Lib.hid hnd
  have HOK1 := Lib.hid hok1
  have HOK2 := Lib.hid hok2
  clear hL h2 hM hnd hok1 hok2
  go_enter Tryd.func23, Tryd.ntmps23
  go_wp2_with fail
  have hra0 : RA w L M 0 v0 (.slice none 0 0) w := ⟨HL.out, by simpa [rowL, icells, natI] using World.ownsRow_nil w w.heap.size 3 1, Below.refl _ _⟩
  go_loopw [0, 6, 7] (fun u v i wr => ∃ k : Nat, k ≤ M.length ∧ i = .int .i64 k ∧ Hid (RA w L M k u v wr)) (fun _ _ i _ => M.length - (intOf i).toNat)
  case atStart => exact ⟨0, by omega, rfl, Lib.hid hra0⟩
  case round =>
    clear hra0
    obtain ⟨i, hi, rfl, HRA⟩ := hrel
    have hbr := HRA.out.bel
    have hwr := hbr.size
    obtain ⟨An, cn, rfl, -⟩ := own_sl HRA.out.nums
    by_cases hlt : i < M.length
    · have hlt' : (i : Int) < (M.length : Int) := by omega
      have hi0 : (0 : Int) ≤ (i : Int) := by omega
      obtain ⟨A0, c0, xs0, rfl, hsl0, hty0, hcv0⟩ := HRA.out.row
      have HTY := Lib.hid hty0
      obtain ⟨b2, o2, D1, d1, D2, d2, hA2, hbl, p0, p1, p2, p3, hrd⟩ := rd_covB (H2.out.below hbr (Nat.le_refl _)).rd HM.out (Tch.of_below hbr) (spares_new w _) (List.getElem?_eq_getElem hlt)
      subst hA2
      have hokd := HOK2.out _ (List.getElem_mem hlt)
      have hfr := row_fresh (L := L) HND.out hlt
      have hsn := once_snoc (L := L) hlt
      have hrsn := row_snoc (L := L) hlt
      have hoki : ∀ x ∈ onceC (M.take i) L, CovOk N x := fun x hx => by
        rcases (onceC_mem _ _ _).1 hx with h | h
        · exact HOK1.out x h
        · exact HOK2.out x (List.mem_of_mem_take h)
      have hlen : (onceC (M.take i) L).length ≤ 11000 := by
        have := onceC_len (M.take i) L
        rw [List.length_take] at this; omega
      generalize M[i] = d at *
      have wi : IntKind.i64.wrap ((i : Int) + 1) = i + 1 := by rw [IntKind.wrap_i64]; omega
      have HFD := Lib.hid (findR_any N A0 (onceC (M.take i) L).length c0 xs0 (onceC (M.take i) L) d D1 d1 D2 d2 wr hsl0 hcv0.at_ rfl hrd.1.t hrd.2.t hoki hokd hN (by omega))
      have HSL := Lib.hid hsl0
      have HCV := Lib.hid hcv0
      have HRD := Lib.hid hrd
      have HFR := Lib.hid hfr
      have HSN := Lib.hid hsn
      have HRSN := Lib.hid hrsn
      have HONE := Lib.hid (CovsAt.one' hcv0.at_ hsl0.len)
      have hxl := hsl0.len
      clear hfr hsn hrsn hoki hokd hsl0 hcv0 hrd hty0
      go_wp2_with fail
      refine Calls.mono HFD.out ?_
      rintro e w5 ⟨rfl, hb5⟩
      have hb5w : Below w.heap.size w w5 := hbr.trans (hb5.mono hwr)
      obtain ⟨n, hn⟩ : ∃ n, (addC (onceC (M.take i) L) d).idxOf d = n := ⟨_, rfl⟩
      have HNN := Lib.hid hn
      have hnl : n < 20000 := by
        have h := List.idxOf_lt_length_of_mem (addC_has (onceC (M.take i) L) d)
        have h2 := addC_step (onceC (M.take i) L) d
        omega
      have r0 := (hb5.cell (p := ⟨b2, o2 + i * 4, none⟩) (show b2 < wr.heap.size by omega)).trans p0
      have r1 := (hb5.cell (p := ⟨b2, o2 + i * 4 + 1, none⟩) (show b2 < wr.heap.size by omega)).trans p1
      have r2 := (hb5.cell (p := ⟨b2, o2 + i * 4 + 2, none⟩) (show b2 < wr.heap.size by omega)).trans p2
      have r3 := (hb5.cell (p := ⟨b2, o2 + i * 4 + 3, none⟩) (show b2 < wr.heap.size by omega)).trans p3
      have hz5 := hb5.size
      clear hn p0 p1 p2 p3
      go_upto_if 24 with (fail)
      go_cut [0, 8] (fun l k wF => ACut w.heap.size (addC (onceC (M.take i) L) d) n w5 l k wF)
      case first =>
        by_cases hm : d ∈ onceC (M.take i) L
        · have hadd : addC (onceC (M.take i) L) d = onceC (M.take i) L := by unfold addC; rw [if_pos hm]
          have hfd : findN (onceC (M.take i) L) d = (n : Int) := by
            unfold findN; rw [if_pos hm, ← HNN.out, hadd]
          rw [hfd]
          have d0 : ¬ (n : Int) < 0 := by omega
          have HADD := Lib.hid hadd
          clear hadd hfd hm
          go_wp2_with fail
          go_meet
          case rel => exact ⟨rfl, by rw [HADD.out]; exact RowB.below ⟨A0, c0, xs0, rfl, HSL.out, HTY.out, HCV.out⟩ hb5, Below.refl _ _⟩
        · have hadd : addC (onceC (M.take i) L) d = onceC (M.take i) L ++ [d] := by unfold addC; rw [if_neg hm]
          have hfd : findN (onceC (M.take i) L) d = -1 := by unfold findN; rw [if_neg hm]
          rw [hfd]
          have hnv : n = (onceC (M.take i) L).length := by
            rw [← HNN.out, hadd, List.idxOf_append, if_neg hm]; simp
          have HREL := Lib.hid (fun (V : World) (v' : Value) (ho : V.ownsRow w5.heap.size 62 4 v' ((onceC (M.take i) L).length + 1) (xs0 ++ [.int .u64 (d.1 : Int), .int .u64 (d.2.1 : Int), .slice D1 (onL d.2.2.1).length d1, .slice D2 (onL d.2.2.2).length d2])) (hb : Below w5.heap.size w5 V) =>
            (show ACut w.heap.size (addC (onceC (M.take i) L) d) n w5 v' (.int .i64 ((onceC (M.take i) L).length : Int)) V from
              ⟨by rw [hnv], RowB.of_own ho (by rw [hadd, List.length_append, List.length_singleton]) (by
                rw [hadd]
                exact CovsB.push ((HCV.out.below hb5).below hb) hxl d ((HRD.out.keep (Tch.of_below hb5) (SpB.of (spares_new wr _))).keep (Tch.of_below hb) (SpB.of (spares_new w5 _)))), hb⟩))
          clear hadd hfd hnv hm
          go_wp2_with fail
          refine wp_region_held_drew (S := fun w' => w'.cell? ⟨b2, o2 + i * 4, none⟩ = some (.int .u64 (d.1 : Int)) ∧ w'.cell? ⟨b2, o2 + i * 4 + 1, none⟩ = some (.int .u64 (d.2.1 : Int)) ∧ w'.cell? ⟨b2, o2 + i * 4 + 2, none⟩ = some (.slice D1 (onL d.2.2.1).length d1) ∧ w'.cell? ⟨b2, o2 + i * 4 + 3, none⟩ = some (.slice D2 (onL d.2.2.2).length d2)) (by kernel_rfl) ⟨r0, r1, r2, r3⟩ (fun hS => ?_)
          refine wpAnyH_takeD (i := 1) (v := ?_) rfl (by kernel_rfl) (by kernel_rfl) (by kernel_rfl) (fun _ _ _ h => h) (Or.inl ⟨by kernel_rfl, ?_⟩) hS ?_
          rotate_left 1
          · (intro w' hSw; (try dsimp only at hSw); go_simp; try (with_reducible rfl))
          try simp only [Act.put, List.setIfInBounds_toArray, List.set_cons_zero, List.set_cons_succ]
          refine wpAnyH_takeD (i := 3) (v := ?_) rfl (by kernel_rfl) (by kernel_rfl) (by kernel_rfl) (fun _ _ _ h => h) (Or.inl ⟨by kernel_rfl, ?_⟩) hS ?_
          rotate_left 1
          · (intro w' hSw; (try dsimp only at hSw); go_simp; try (with_reducible rfl))
          try simp only [Act.put, List.setIfInBounds_toArray, List.set_cons_zero, List.set_cons_succ]
          refine wpAnyH_takeD (i := 4) (v := ?_) rfl (by kernel_rfl) (by kernel_rfl) (by kernel_rfl) (fun _ _ _ h => h) (Or.inl ⟨by kernel_rfl, ?_⟩) hS ?_
          rotate_left 1
          · (intro w' hSw; (try dsimp only at hSw); go_simp; try (with_reducible rfl))
          try simp only [Act.put, List.setIfInBounds_toArray, List.set_cons_zero, List.set_cons_succ]
          refine wpAnyH_takeD (i := 5) (v := ?_) rfl (by kernel_rfl) (by kernel_rfl) (by kernel_rfl) (fun _ _ _ h => h) (Or.inl ⟨by kernel_rfl, ?_⟩) hS ?_
          rotate_left 1
          · (intro w' hSw; (try dsimp only at hSw); go_simp; try (with_reducible rfl))
          try simp only [Act.put, List.setIfInBounds_toArray, List.set_cons_zero, List.set_cons_succ]
          refine wpAnyH_takeD (i := 6) (v := ?_) rfl (by kernel_rfl) (by kernel_rfl) (by kernel_rfl) (fun _ _ _ h => h) (Or.inl ⟨by kernel_rfl, ?_⟩) hS ?_
          rotate_left 1
          · (intro w' hSw; (try dsimp only at hSw); go_simp; try (with_reducible rfl))
          try simp only [Act.put, List.setIfInBounds_toArray, List.set_cons_zero, List.set_cons_succ]
          refine wpAnyH_ready (rs := [0, 7]) (by kernel_rfl) (by simp) ?_
          refine (allReadyH_consD (i := 0) rfl (fun K hK => ?_) (allReadyH_consD (i := 7) rfl (fun K hK => ?_) AllReadyH.nil))
          · skip
            go_simp
            obtain ⟨V1, hw1⟩ : ∃ V, V = (w5.alloc (.cells #[] 62)).drew := ⟨_, rfl⟩
            have hv1 : Below w5.heap.size w5 V1 := by rw [hw1]; exact ((Below.refl _ _).alloc (Nat.le_refl _) _).drew
            have hn1 : V1.heap[w5.heap.size]? = some (.cells #[] 62 (0, 0)) := by rw [hw1]; exact heap_alloc_new _ _
            rw [← hw1]
            clear hw1
            refine hK.out _ _ ⟨(hv1.cell (p := ⟨b2, o2 + i * 4, none⟩) (show b2 < w5.heap.size by omega)).trans r0, (hv1.cell (p := ⟨b2, o2 + i * 4 + 1, none⟩) (show b2 < w5.heap.size by omega)).trans r1, (hv1.cell (p := ⟨b2, o2 + i * 4 + 2, none⟩) (show b2 < w5.heap.size by omega)).trans r2, (hv1.cell (p := ⟨b2, o2 + i * 4 + 3, none⟩) (show b2 < w5.heap.size by omega)).trans r3⟩ (fun hS => ?_)
            clear hK
            try simp only [Act.put, List.setIfInBounds_toArray, List.set_cons_zero, List.set_cons_succ]
            refine wpAnyH_ready (rs := [2, 7]) (by kernel_rfl) (by simp) ?_
            refine (allReadyH_consD (i := 2) rfl (fun K hK => ?_) (allReadyH_consD (i := 7) rfl (fun K hK => ?_) AllReadyH.nil))
            · skip
              have zv2 := hv1.size
              refine step_ext0 rfl (.tmp 27) (.tmp 28) 58 rfl w5.heap.size 62 4 64 sliceCovR _ (by rfl) wr.heap.size A0 (onceC (M.take i) L).length c0 xs0 (by rfl) (HSL.out.below (hb5.trans (hv1.mono hb5.size)) (Nat.le_refl _)) HONE.out (by omega) (by omega) zv2 hn1 (Nat.le_refl _) ?_
              intro v2 V2 ho2 hq2
              have hv2 : Below w5.heap.size w5 V2 := hv1.trans (hq2.mono hv1.size)
              refine hK.out _ _ ⟨(hv2.cell (p := ⟨b2, o2 + i * 4, none⟩) (show b2 < w5.heap.size by omega)).trans r0, (hv2.cell (p := ⟨b2, o2 + i * 4 + 1, none⟩) (show b2 < w5.heap.size by omega)).trans r1, (hv2.cell (p := ⟨b2, o2 + i * 4 + 2, none⟩) (show b2 < w5.heap.size by omega)).trans r2, (hv2.cell (p := ⟨b2, o2 + i * 4 + 3, none⟩) (show b2 < w5.heap.size by omega)).trans r3⟩ (fun hS => ?_)
              clear hK
              try simp only [Act.put, List.setIfInBounds_toArray, List.set_cons_zero, List.set_cons_succ]
              refine wpAnyH_oneD (i := 7) rfl (by kernel_rfl) (fun K hK => ?_)
              go_simp
              obtain ⟨V3, hw3⟩ : ∃ V, V = V2.alloc (.cells #[.int .u64 (d.1 : Int), .int .u64 (d.2.1 : Int), .slice D1 (onL d.2.2.1).length d1, .slice D2 (onL d.2.2.2).length d2] 62) := ⟨_, rfl⟩
              have hq3 : Below V2.heap.size V2 V3 := by rw [hw3]; exact (Below.refl _ _).alloc (Nat.le_refl _) _
              have hv3 : Below w5.heap.size w5 V3 := hv2.trans (hq3.mono hv2.size)
              have hn3 : V3.heap[V2.heap.size]? = some (.cells #[.int .u64 (d.1 : Int), .int .u64 (d.2.1 : Int), .slice D1 (onL d.2.2.1).length d1, .slice D2 (onL d.2.2.2).length d2] 62 (0, 0)) := by rw [hw3]; exact heap_alloc_new _ _
              have ho2_3 := own_tch ho2 (Tch.of_below hq3) (fun g hg => by have := (ho2.lt g hg).2; omega)
              rw [← hw3]
              clear hw3
              refine hK.out _ _ ⟨(hv3.cell (p := ⟨b2, o2 + i * 4, none⟩) (show b2 < w5.heap.size by omega)).trans r0, (hv3.cell (p := ⟨b2, o2 + i * 4 + 1, none⟩) (show b2 < w5.heap.size by omega)).trans r1, (hv3.cell (p := ⟨b2, o2 + i * 4 + 2, none⟩) (show b2 < w5.heap.size by omega)).trans r2, (hv3.cell (p := ⟨b2, o2 + i * 4 + 3, none⟩) (show b2 < w5.heap.size by omega)).trans r3⟩ (fun hS => ?_)
              clear hK
              try simp only [Act.put, List.setIfInBounds_toArray, List.set_cons_zero, List.set_cons_succ]
              refine wpAnyH_oneD (i := 8) rfl (by kernel_rfl) (fun K hK => ?_)
              have zv4 := hv3.size
              refine step_push rfl (.tmp 29) (.tmp 34) 58 rfl w5.heap.size 62 4 64 sliceCovR _ _ _ ho2_3 (by rfl) _ #[.int .u64 (d.1 : Int), .int .u64 (d.2.1 : Int), .slice D1 (onL d.2.2.1).length d1, .slice D2 (onL d.2.2.2).length d2] (by rfl) hn3 rfl (by simp [Value.oneCell']) (by omega) (by omega) zv4 ?_
              intro v4 V4 ho4 ht4 hat4 hne4
              have hv4 : Below w5.heap.size w5 V4 := hv3.trans (ht4.below zv4 (fun g hg e => by have := (ho2_3.lt g e).1; omega))
              refine hK.out _ _ ⟨(hv4.cell (p := ⟨b2, o2 + i * 4, none⟩) (show b2 < w5.heap.size by omega)).trans r0, (hv4.cell (p := ⟨b2, o2 + i * 4 + 1, none⟩) (show b2 < w5.heap.size by omega)).trans r1, (hv4.cell (p := ⟨b2, o2 + i * 4 + 2, none⟩) (show b2 < w5.heap.size by omega)).trans r2, (hv4.cell (p := ⟨b2, o2 + i * 4 + 3, none⟩) (show b2 < w5.heap.size by omega)).trans r3⟩ (fun hS => ?_)
              clear hK
              try simp only [Act.put, List.setIfInBounds_toArray, List.set_cons_zero, List.set_cons_succ]
              refine wpAnyH_takeD (i := 9) (v := ?_) rfl (by kernel_rfl) (by kernel_rfl) (by kernel_rfl) (fun _ _ _ h => h) (Or.inl ⟨by kernel_rfl, ?_⟩) hS ?_
              rotate_left 1
              · (intro w' hSw; (try dsimp only at hSw); go_simp; try (with_reducible rfl))
              try simp only [Act.put, List.setIfInBounds_toArray, List.set_cons_zero]
              refine wpAnyH_done (by kernel_rfl) ?_ _
              go_wp2_with fail
              go_meet
              case rel => exact HREL.out _ _ ho4 hv4
            · skip
              go_simp
              obtain ⟨V5, hw5⟩ : ∃ V, V = V1.alloc (.cells #[.int .u64 (d.1 : Int), .int .u64 (d.2.1 : Int), .slice D1 (onL d.2.2.1).length d1, .slice D2 (onL d.2.2.2).length d2] 62) := ⟨_, rfl⟩
              have hq5 : Below V1.heap.size V1 V5 := by rw [hw5]; exact (Below.refl _ _).alloc (Nat.le_refl _) _
              have hv5 : Below w5.heap.size w5 V5 := hv1.trans (hq5.mono hv1.size)
              have hn5 : V5.heap[V1.heap.size]? = some (.cells #[.int .u64 (d.1 : Int), .int .u64 (d.2.1 : Int), .slice D1 (onL d.2.2.1).length d1, .slice D2 (onL d.2.2.2).length d2] 62 (0, 0)) := by rw [hw5]; exact heap_alloc_new _ _
              have hn1_5 := (hq5.block _ (heap_lt hn1)).trans hn1
              rw [← hw5]
              clear hw5
              refine hK.out _ _ ⟨(hv5.cell (p := ⟨b2, o2 + i * 4, none⟩) (show b2 < w5.heap.size by omega)).trans r0, (hv5.cell (p := ⟨b2, o2 + i * 4 + 1, none⟩) (show b2 < w5.heap.size by omega)).trans r1, (hv5.cell (p := ⟨b2, o2 + i * 4 + 2, none⟩) (show b2 < w5.heap.size by omega)).trans r2, (hv5.cell (p := ⟨b2, o2 + i * 4 + 3, none⟩) (show b2 < w5.heap.size by omega)).trans r3⟩ (fun hS => ?_)
              clear hK
              try simp only [Act.put, List.setIfInBounds_toArray, List.set_cons_zero, List.set_cons_succ]
              refine wpAnyH_oneD (i := 2) rfl (by kernel_rfl) (fun K hK => ?_)
              have zv6 := hv5.size
              refine step_ext0 rfl (.tmp 27) (.tmp 28) 58 rfl w5.heap.size 62 4 64 sliceCovR _ (by rfl) wr.heap.size A0 (onceC (M.take i) L).length c0 xs0 (by rfl) (HSL.out.below (hb5.trans (hv5.mono hb5.size)) (Nat.le_refl _)) HONE.out (by omega) (by omega) zv6 hn1_5 (Nat.le_refl _) ?_
              intro v6 V6 ho6 hq6
              have hv6 : Below w5.heap.size w5 V6 := hv5.trans (hq6.mono hv5.size)
              have hn5_6 := (hq6.block _ (heap_lt hn5)).trans hn5
              refine hK.out _ _ ⟨(hv6.cell (p := ⟨b2, o2 + i * 4, none⟩) (show b2 < w5.heap.size by omega)).trans r0, (hv6.cell (p := ⟨b2, o2 + i * 4 + 1, none⟩) (show b2 < w5.heap.size by omega)).trans r1, (hv6.cell (p := ⟨b2, o2 + i * 4 + 2, none⟩) (show b2 < w5.heap.size by omega)).trans r2, (hv6.cell (p := ⟨b2, o2 + i * 4 + 3, none⟩) (show b2 < w5.heap.size by omega)).trans r3⟩ (fun hS => ?_)
              clear hK
              try simp only [Act.put, List.setIfInBounds_toArray, List.set_cons_zero, List.set_cons_succ]
              refine wpAnyH_oneD (i := 8) rfl (by kernel_rfl) (fun K hK => ?_)
              have zv7 := hv6.size
              refine step_push rfl (.tmp 29) (.tmp 34) 58 rfl w5.heap.size 62 4 64 sliceCovR _ _ _ ho6 (by rfl) _ #[.int .u64 (d.1 : Int), .int .u64 (d.2.1 : Int), .slice D1 (onL d.2.2.1).length d1, .slice D2 (onL d.2.2.2).length d2] (by rfl) hn5_6 rfl (by simp [Value.oneCell']) (by omega) (by omega) zv7 ?_
              intro v7 V7 ho7 ht7 hat7 hne7
              have hv7 : Below w5.heap.size w5 V7 := hv6.trans (ht7.below zv7 (fun g hg e => by have := (ho6.lt g e).1; omega))
              refine hK.out _ _ ⟨(hv7.cell (p := ⟨b2, o2 + i * 4, none⟩) (show b2 < w5.heap.size by omega)).trans r0, (hv7.cell (p := ⟨b2, o2 + i * 4 + 1, none⟩) (show b2 < w5.heap.size by omega)).trans r1, (hv7.cell (p := ⟨b2, o2 + i * 4 + 2, none⟩) (show b2 < w5.heap.size by omega)).trans r2, (hv7.cell (p := ⟨b2, o2 + i * 4 + 3, none⟩) (show b2 < w5.heap.size by omega)).trans r3⟩ (fun hS => ?_)
              clear hK
              try simp only [Act.put, List.setIfInBounds_toArray, List.set_cons_zero, List.set_cons_succ]
              refine wpAnyH_takeD (i := 9) (v := ?_) rfl (by kernel_rfl) (by kernel_rfl) (by kernel_rfl) (fun _ _ _ h => h) (Or.inl ⟨by kernel_rfl, ?_⟩) hS ?_
              rotate_left 1
              · (intro w' hSw; (try dsimp only at hSw); go_simp; try (with_reducible rfl))
              try simp only [Act.put, List.setIfInBounds_toArray, List.set_cons_zero]
              refine wpAnyH_done (by kernel_rfl) ?_ _
              go_wp2_with fail
              go_meet
              case rel => exact HREL.out _ _ ho7 hv7
          · skip
            go_simp
            obtain ⟨V8, hw8⟩ : ∃ V, V = (w5.alloc (.cells #[.int .u64 (d.1 : Int), .int .u64 (d.2.1 : Int), .slice D1 (onL d.2.2.1).length d1, .slice D2 (onL d.2.2.2).length d2] 62)).drew := ⟨_, rfl⟩
            have hv8 : Below w5.heap.size w5 V8 := by rw [hw8]; exact ((Below.refl _ _).alloc (Nat.le_refl _) _).drew
            have hn8 : V8.heap[w5.heap.size]? = some (.cells #[.int .u64 (d.1 : Int), .int .u64 (d.2.1 : Int), .slice D1 (onL d.2.2.1).length d1, .slice D2 (onL d.2.2.2).length d2] 62 (0, 0)) := by rw [hw8]; exact heap_alloc_new _ _
            rw [← hw8]
            clear hw8
            refine hK.out _ _ ⟨(hv8.cell (p := ⟨b2, o2 + i * 4, none⟩) (show b2 < w5.heap.size by omega)).trans r0, (hv8.cell (p := ⟨b2, o2 + i * 4 + 1, none⟩) (show b2 < w5.heap.size by omega)).trans r1, (hv8.cell (p := ⟨b2, o2 + i * 4 + 2, none⟩) (show b2 < w5.heap.size by omega)).trans r2, (hv8.cell (p := ⟨b2, o2 + i * 4 + 3, none⟩) (show b2 < w5.heap.size by omega)).trans r3⟩ (fun hS => ?_)
            clear hK
            try simp only [Act.put, List.setIfInBounds_toArray, List.set_cons_zero, List.set_cons_succ]
            refine wpAnyH_oneD (i := 0) rfl (by kernel_rfl) (fun K hK => ?_)
            go_simp
            obtain ⟨V9, hw9⟩ : ∃ V, V = V8.alloc (.cells #[] 62) := ⟨_, rfl⟩
            have hq9 : Below V8.heap.size V8 V9 := by rw [hw9]; exact (Below.refl _ _).alloc (Nat.le_refl _) _
            have hv9 : Below w5.heap.size w5 V9 := hv8.trans (hq9.mono hv8.size)
            have hn9 : V9.heap[V8.heap.size]? = some (.cells #[] 62 (0, 0)) := by rw [hw9]; exact heap_alloc_new _ _
            have hn8_9 := (hq9.block _ (heap_lt hn8)).trans hn8
            rw [← hw9]
            clear hw9
            refine hK.out _ _ ⟨(hv9.cell (p := ⟨b2, o2 + i * 4, none⟩) (show b2 < w5.heap.size by omega)).trans r0, (hv9.cell (p := ⟨b2, o2 + i * 4 + 1, none⟩) (show b2 < w5.heap.size by omega)).trans r1, (hv9.cell (p := ⟨b2, o2 + i * 4 + 2, none⟩) (show b2 < w5.heap.size by omega)).trans r2, (hv9.cell (p := ⟨b2, o2 + i * 4 + 3, none⟩) (show b2 < w5.heap.size by omega)).trans r3⟩ (fun hS => ?_)
            clear hK
            try simp only [Act.put, List.setIfInBounds_toArray, List.set_cons_zero, List.set_cons_succ]
            refine wpAnyH_oneD (i := 2) rfl (by kernel_rfl) (fun K hK => ?_)
            have zv10 := hv9.size
            refine step_ext0 rfl (.tmp 27) (.tmp 28) 58 rfl w5.heap.size 62 4 64 sliceCovR _ (by rfl) wr.heap.size A0 (onceC (M.take i) L).length c0 xs0 (by rfl) (HSL.out.below (hb5.trans (hv9.mono hb5.size)) (Nat.le_refl _)) HONE.out (by omega) (by omega) zv10 hn9 (hv8.size) ?_
            intro v10 V10 ho10 hq10
            have hv10 : Below w5.heap.size w5 V10 := hv9.trans (hq10.mono hv9.size)
            have hn8_9_10 := (hq10.block _ (heap_lt hn8_9)).trans hn8_9
            refine hK.out _ _ ⟨(hv10.cell (p := ⟨b2, o2 + i * 4, none⟩) (show b2 < w5.heap.size by omega)).trans r0, (hv10.cell (p := ⟨b2, o2 + i * 4 + 1, none⟩) (show b2 < w5.heap.size by omega)).trans r1, (hv10.cell (p := ⟨b2, o2 + i * 4 + 2, none⟩) (show b2 < w5.heap.size by omega)).trans r2, (hv10.cell (p := ⟨b2, o2 + i * 4 + 3, none⟩) (show b2 < w5.heap.size by omega)).trans r3⟩ (fun hS => ?_)
            clear hK
            try simp only [Act.put, List.setIfInBounds_toArray, List.set_cons_zero, List.set_cons_succ]
            refine wpAnyH_oneD (i := 8) rfl (by kernel_rfl) (fun K hK => ?_)
            have zv11 := hv10.size
            refine step_push rfl (.tmp 29) (.tmp 34) 58 rfl w5.heap.size 62 4 64 sliceCovR _ _ _ ho10 (by rfl) _ #[.int .u64 (d.1 : Int), .int .u64 (d.2.1 : Int), .slice D1 (onL d.2.2.1).length d1, .slice D2 (onL d.2.2.2).length d2] (by rfl) hn8_9_10 rfl (by simp [Value.oneCell']) (by omega) (by omega) zv11 ?_
            intro v11 V11 ho11 ht11 hat11 hne11
            have hv11 : Below w5.heap.size w5 V11 := hv10.trans (ht11.below zv11 (fun g hg e => by have := (ho10.lt g e).1; omega))
            refine hK.out _ _ ⟨(hv11.cell (p := ⟨b2, o2 + i * 4, none⟩) (show b2 < w5.heap.size by omega)).trans r0, (hv11.cell (p := ⟨b2, o2 + i * 4 + 1, none⟩) (show b2 < w5.heap.size by omega)).trans r1, (hv11.cell (p := ⟨b2, o2 + i * 4 + 2, none⟩) (show b2 < w5.heap.size by omega)).trans r2, (hv11.cell (p := ⟨b2, o2 + i * 4 + 3, none⟩) (show b2 < w5.heap.size by omega)).trans r3⟩ (fun hS => ?_)
            clear hK
            try simp only [Act.put, List.setIfInBounds_toArray, List.set_cons_zero, List.set_cons_succ]
            refine wpAnyH_takeD (i := 9) (v := ?_) rfl (by kernel_rfl) (by kernel_rfl) (by kernel_rfl) (fun _ _ _ h => h) (Or.inl ⟨by kernel_rfl, ?_⟩) hS ?_
            rotate_left 1
            · (intro w' hSw; (try dsimp only at hSw); go_simp; try (with_reducible rfl))
            try simp only [Act.put, List.setIfInBounds_toArray, List.set_cons_zero]
            refine wpAnyH_done (by kernel_rfl) ?_ _
            go_wp2_with fail
            go_meet
            case rel => exact HREL.out _ _ ho11 hv11
      case rest =>
        obtain ⟨rfl, hrow9, hbc⟩ := hcut
        have HROW := Lib.hid hrow9
        obtain ⟨A9, c9, xs9, rfl, -, -, -⟩ := hrow9
        have hbwc : Below w.heap.size w wc := hb5w.trans (hbc.mono hb5w.size)
        have hb5c : Below wr.heap.size wr wc := hb5.trans (hbc.mono hz5)
        have hnums := own_tch HRA.out.nums (Tch.of_below hb5c) (fun g hg => by have := (HRA.out.nums.lt g hg).2; omega)
        obtain ⟨An', cn', hAn, hsn'⟩ := own_sl hnums
        cases hAn
        have hfr := HFR.out
        rw [HNN.out] at hfr
        obtain ⟨R, hR⟩ : ∃ R, rowL (onceC (M.take i) L) (M.take i) = R := ⟨_, rfl⟩
        rw [hR] at hnums hsn' hfr ⊢
        have hrl : R.length ≤ 10000 := by rw [← hR]; simp [rowL]; omega
        have HNS := Lib.hid hsn'
        have HOWN := Lib.hid hnums
        have HFR2 := Lib.hid hfr
        have HRE := Lib.hid hR
        clear hR hnums hsn' hfr r0 r1 r2 r3
        go_wp2_with fail
        go_loopw [9, 10] (fun u v wl => ∃ j m : Nat, j ≤ R.length ∧ u = .bool false ∧ v = .int .i64 j ∧ wl = wc.drewN m) (fun _ v _ => R.length - (intOf v).toNat)
        case atStart => exact ⟨0, 0, by omega, rfl, rfl, rfl⟩
        case round =>
          obtain ⟨j, m, hj, rfl, rfl, rfl⟩ := hrel
          by_cases hjl : j < R.length
          · have hjl' : (j : Int) < (R.length : Int) := by omega
            have hj0 : (0 : Int) ≤ (j : Int) := by omega
            obtain ⟨bn, on', rfl, hbn, hcn2⟩ := rd_intS HNS.out (k := j) (by simpa [natI] using hjl)
            have hxv : (natI R)[j]'(by simpa [natI] using hjl) = ((R[j] : Nat) : Int) := by simp [natI]
            rw [hxv] at hcn2
            have hne : R[j] ≠ n := fun h => HFR2.out (by rw [← h]; exact List.getElem_mem hjl)
            generalize R[j] = y at *
            have hyn : ((y : Int) == (n : Int)) = false := beq_eq_false_iff_ne.2 (by omega)
            have wj : IntKind.i64.wrap ((j : Int) + 1) = j + 1 := by rw [IntKind.wrap_i64]; omega
            clear hxv hne
            go_wp2_with fail
            go_roundw
            case rel => exact ⟨j + 1, m, by omega, rfl, by go_num, rfl⟩
            case measure => simp [intOf]; omega
          · have hjn : j = R.length := by omega
            subst hjn
            have hownm : (wc.drewN m).ownsRow w.heap.size 3 1 (.slice An R.length cn) R.length (icells (natI R)) := HOWN.out
            have hwcs : w.heap.size ≤ wc.heap.size := hbwc.size
            have HDM := Lib.hid hownm
            clear hownm
            go_wp2_with (at_builtin
                         refine wpList_push rfl (.tmp 53) (.tmp 55) 25 rfl w.heap.size 3 1 8 sliceInt _ _ _ (HDM.out.alloc _) rfl wc.heap.size #[.int .i64 n] rfl (heap_alloc_new (wc.drewN m) _) rfl (by simp [Value.oneCell']) (by omega) (by omega) (by simp; omega) ?_
                         intro v9 W9 ho9 ht9 hat9 hne9)
            have hbW9 : Below w.heap.size wc W9 := ((below_drewA wc m).alloc (below_drewA wc m).size (.cells #[.int .i64 n] 3)).mono hwcs |>.trans (ht9.below (by simp; omega) (fun g hg e => by have := (HDM.out.lt g e).1; omega))
            have hnew : RA w L M (i + 1) (.slice A9 (addC (onceC (M.take i) L) d).length c9) v9 W9 := by
              refine ⟨?_, ?_, hbwc.trans hbW9⟩
              · rw [HSN.out]
                have hadA : Below wc.heap.size wc ((wc.drewN m).alloc (.cells #[.int .i64 n] 3)) := (below_drewA wc m).alloc (below_drewA wc m).size _
                refine (HROW.out.below hadA).keep ht9 (fun k cs hk => own_ne_blk (HDM.out.alloc _) hk (by decide)) (fun k cs hk _ e => by have := (HDM.out.lt k e).1; omega)
              · rw [HRSN.out, HNN.out, HRE.out, List.length_append, List.length_singleton]
                have e : icells (natI (R ++ [n])) = icells (natI R) ++ [.int .i64 (n : Int)] := by simp [icells, natI]
                rw [e]; exact ho9
            have HNEW := Lib.hid hnew
            clear hnew hbW9 ht9 hat9 hne9 ho9
            go_roundw
            case rel => exact ⟨i + 1, by omega, by go_num, HNEW⟩
            case measure => simp [intOf]; omega
    · have hin : i = M.length := by omega
      subst hin
      have hnum := HRA.out.nums
      have hrow := HRA.out.row
      rw [List.take_length] at hnum hrow
      obtain ⟨An', cn', hAn, hts⟩ := TSl.of_own hnum
      rw [List.take_length]
      have HTS := Lib.hid hts
      have HROW := Lib.hid hrow
      obtain ⟨Au, cu, xsu, rfl, -, -, -⟩ := hrow
      injection hAn with e1 e2 e3
      subst e1 e3
      clear e2
      clear hnum hts
      go_wp2_with fail
      go_ret2
      exact ⟨_, _, _, rfl, HROW.out, HTS.out, hbr⟩
end Go.Proofs.YtamhjgkigjpbhaaDoor

/- (XRf3) What the reference's Of holds (layer 29). -/
namespace Go.Proofs.YtamhjgkigjpbhaaDoor
open Go.RowKit Go.Maps

theorem CovsB.mono {B B' : Nat} {w : World} {xs : List Value} {T : List Cov} (h : CovsB B w xs T) (hB : B ≤ B') : CovsB B' w xs T := by
  intro k c hk
  obtain ⟨A1, c1, A2, c2, e0, e1, e2, e3, t1, t2⟩ := h k c hk
  exact ⟨A1, c1, A2, c2, e0, e1, e2, e3, t1.mono hB, t2.mono hB⟩
theorem RowB.mono {B B' : Nat} {w : World} {T : List Cov} {v : Value} (h : RowB B w T v) (hB : B ≤ B') : RowB B' w T v := by
  obtain ⟨A, c, xs, hv, h1, ty, h2⟩ := h
  exact ⟨A, c, xs, hv, h1, ty, h2.mono hB⟩
/-- The nodes that were laid down. -/
def NdK (B : Nat) (w : World) (xs : List Value) (f : List Nd) (L : List Cov) (rows : List (List Nat)) : Prop :=
  ∀ (k : Nat) (c : Cov), k < rows.length → L[k]? = some c → ∃ A cp, xs[k * 4]? = some (.int .u64 (c.1 : Int)) ∧ xs[k * 4 + 1]? = some (.int .u64 (c.2.1 : Int)) ∧ xs[k * 4 + 2]? = some (.int .u64 ((meetsN f (natI (onL c.2.2.2)) : Nat) : Int)) ∧
    xs[k * 4 + 3]? = some (.slice A (rows.getD k []).length cp) ∧ TSb w B A (rows.getD k []).length cp (icells (natI (rows.getD k [])))
theorem NdK.keep {B : Nat} {S : Nat → Prop} {w w' : World} {xs : List Value} {f : List Nd} {L : List Cov} {rows : List (List Nat)} (h : NdK B w xs f L rows) (ht : Tch S w w') (hi : SpB S w B) : NdK B w' xs f L rows := by
  intro k c hk hc
  obtain ⟨A, cp, e0, e1, e2, e3, t⟩ := h k c hk hc
  exact ⟨A, cp, e0, e1, e2, e3, t.keep ht hi⟩
theorem NdK.mono {B B' : Nat} {w : World} {xs : List Value} {f : List Nd} {L : List Cov} {rows : List (List Nat)} (h : NdK B w xs f L rows) (hB : B ≤ B') : NdK B' w xs f L rows := by
  intro k c hk hc
  obtain ⟨A, cp, e0, e1, e2, e3, t⟩ := h k c hk hc
  exact ⟨A, cp, e0, e1, e2, e3, t.mono hB⟩
theorem NdK.push {B : Nat} {w : World} {xs : List Value} {f : List Nd} {L : List Cov} {rows : List (List Nat)} (h : NdK B w xs f L rows) (hl : xs.length = rows.length * 4) (m : List Cov) (hr : rows.length < L.length) {x : Cov} (hx : L[rows.length]? = some x) (r : List Nat) {A : Option Addr} {cp : Nat}
    (ht : TSb w B A r.length cp (icells (natI r))) : NdK B w (xs ++ [.int .u64 (x.1 : Int), .int .u64 (x.2.1 : Int), .int .u64 ((meetsN f (natI (onL x.2.2.2)) : Nat) : Int), .slice A r.length cp]) f (L ++ m) (rows ++ [r]) := by
  intro k c hk hc
  rw [List.length_append, List.length_singleton] at hk
  rw [List.getElem?_append_left (by omega)] at hc
  by_cases hlt : k < rows.length
  · have hg : (rows ++ [r]).getD k [] = rows.getD k [] := by rw [List.getD_eq_getElem?_getD, List.getElem?_append_left hlt, ← List.getD_eq_getElem?_getD]
    rw [hg]
    obtain ⟨A', cp', e0, e1, e2, e3, t⟩ := h k c hlt hc
    refine ⟨A', cp', ?_, ?_, ?_, ?_, t⟩ <;> (rw [List.getElem?_append_left (by omega)]; assumption)
  · have hke : k = rows.length := by omega
    subst hke
    rw [hx] at hc
    cases hc
    have hg : (rows ++ [r]).getD rows.length [] = r := by rw [List.getD_eq_getElem?_getD, List.getElem?_append_right (Nat.le_refl _)]; simp
    rw [hg]
    refine ⟨A, cp, ?_, ?_, ?_, ?_, ht⟩
    · rw [List.getElem?_append_right (by omega), hl, show rows.length * 4 - rows.length * 4 = 0 by omega]; rfl
    · rw [List.getElem?_append_right (by omega), hl, show rows.length * 4 + 1 - rows.length * 4 = 1 by omega]; rfl
    · rw [List.getElem?_append_right (by omega), hl, show rows.length * 4 + 2 - rows.length * 4 = 2 by omega]; rfl
    · rw [List.getElem?_append_right (by omega), hl, show rows.length * 4 + 3 - rows.length * 4 = 3 by omega]; rfl
/-- What the loop of Of keeps. -/
structure OR (n0 : Nat) (w4 : World) (f : List Nd) (sets : Int) (A1 : Option Addr) (c1 ob : Nat) (L : List Cov) (rows : List (List Nat)) (u5 vn : Value) (wr : World) : Prop where
  bel : Below n0 w4 wr
  row : RowB wr.heap.size wr L u5
  box : wr.heap[ob]? = some (.cells #[.int .i64 sets, .slice A1 (firstL f).length c1, vn] 28 (0, 0))
  ini : TSl wr 3 A1 (List.range (firstL f).length).length c1 (icells (natI (List.range (firstL f).length)))
  nds : ∃ xs, wr.ownsRow n0 43 4 vn rows.length xs ∧ NdK wr.heap.size wr xs f L rows
  inv : TabInv f L rows
  rl : rows.length ≤ 256
  it : if L.length ≤ 256 then tabIt f (257 - rows.length) L rows = tabL f else tabL f = none
  lt : n0 ≤ w4.heap.size ∧ n0 ≤ ob
theorem OR.step {n0 : Nat} {w4 : World} {f : List Nd} {sets : Int} {A1 : Option Addr} {c1 ob : Nat} {L : List Cov} {rows : List (List Nat)} {u5 vn : Value} {wr : World} (h : OR n0 w4 f sets A1 c1 ob L rows u5 vn wr) (hN : isN f = true) (h256 : L.length ≤ 256) (hlt : rows.length < L.length) {x : Cov} (hx : L[rows.length]? = some x)
    {w7 V9 V10 : World} (hb7 : Below wr.heap.size wr w7) {T : List Cov} (hT : coversL f (onL x.2.2.1) = T) {u7 : Value} (hrow : RowB w7.heap.size w7 (onceC T L) u7) {A9 : Option Addr} {c9 : Nat} (htl : TSl w7 3 A9 (rowL (onceC T L) T).length c9 (icells (natI (rowL (onceC T L) T))))
    (hb9 : Below w7.heap.size w7 V9) {xs : List Value} (hxs : V9.ownsRow n0 43 4 vn rows.length xs) (hnk : NdK w7.heap.size V9 xs f L rows) {vn' : Value} (ht10 : Tch (fun k => vn.ownBlock = some k) V9 V10)
    (ho10 : V10.ownsRow n0 43 4 vn' (rows.length + 1) (xs ++ [.int .u64 (x.1 : Int), .int .u64 (x.2.1 : Int), .int .u64 ((meetsN f (natI (onL x.2.2.2)) : Nat) : Int), .slice A9 (rowL (onceC T L) T).length c9])) :
    OR n0 w4 f sets A1 c1 ob (onceC T L) (rows ++ [rowL (onceC T L) T]) u7 vn' (V10.setCell ⟨ob, 2, none⟩ vn') := by
  obtain ⟨m, hm⟩ := onceC_pre T L
  have hz7 := hb7.size
  have hz9 := hb9.size
  have hz10 := ht10.size
  have hlo := heap_lt h.box
  have box9 := (hb9.block ob (by omega)).trans ((hb7.block ob hlo).trans h.box)
  have box10 := ht10.blk box9 (own_ne_blk hxs box9 (by decide))
  have s11 : Tch (fun k => k = ob) V10 (V10.setCell ⟨ob, 2, none⟩ vn') := (Tch.refl (fun k => k = ob) V10).setCell (p := ⟨ob, 2, none⟩) (fun _ => rfl) vn'
  have hz11 := s11.size
  have sp10 : ∀ t : TypeId, 43 ≠ t → Spares (fun k => vn.ownBlock = some k) V9 t := fun t ht k cs hk => own_ne_blk hxs hk ht
  have sp11 : ∀ t : TypeId, 28 ≠ t → Spares (fun k => k = ob) V10 t := fun t ht => spares_one box10 ht
  have hn0 := h.lt
  have hwr := h.bel.size
  have hinv := h.inv.step' hN hlt hx
  rw [hT] at hinv
  refine ⟨?_, ?_, ?_, ?_, ?_, hinv, ?_, ?_, hn0⟩
  · have b7 := h.bel.trans (hb7.mono (by omega))
    have b9 := b7.trans (hb9.mono (by omega))
    have b10 := b9.trans (ht10.below (by omega) (fun k hk e => by have := (hxs.lt k e).1; omega))
    exact b10.trans (s11.below (by omega) (fun k hk e => by omega))
  · exact ((((hrow.below hb9).keep ht10 (sp10 _ (by decide)) (SpB.of (sp10 _ (by decide)))).keep s11 (sp11 _ (by decide)) (SpB.of (sp11 _ (by decide)))).mono (by omega))
  · have := heap_setCell_same V10 ob 2 _ _ vn' box10
    simpa using this
  · exact (((h.ini.below hb7).below hb9).keep ht10 (sp10 _ (by decide))).keep s11 (sp11 _ (by decide))
  · have hown := own_tch ho10 s11 (fun g hg e => own_ne_blk ho10 box10 (by decide) (by rw [hg, e]))
    refine ⟨_, by rw [List.length_append, List.length_singleton]; exact hown, ?_⟩
    have hp := NdK.push hnk hxs.1 m hlt hx (rowL (onceC T L) T) (((TSb.of htl).keep (Tch.of_below hb9) (SpB.of (spares_new w7 _))))
    rw [← hm] at hp
    exact ((hp.keep ht10 (SpB.of (sp10 _ (by decide)))).keep s11 (SpB.of (sp11 _ (by decide)))).mono (by omega)
  · rw [List.length_append, List.length_singleton]; omega
  · have hit := h.it
    rw [if_pos h256, show 257 - rows.length = (256 - rows.length) + 1 by omega, tabIt_step hlt hx, hT] at hit
    by_cases hov : (onceC T L).length ≤ 256
    · rw [if_neg (by omega)] at hit
      rw [if_pos hov, List.length_append, List.length_singleton, show 257 - (rows.length + 1) = 256 - rows.length by omega]
      exact hit
    · rw [if_pos (by omega)] at hit
      rw [if_neg hov]; exact hit.symm
theorem OR.aut {n0 : Nat} {w4 : World} {f : List Nd} {sets : Int} {A1 : Option Addr} {c1 ob : Nat} {L : List Cov} {rows : List (List Nat)} {u5 vn : Value} {wr w' : World} {S : Nat → Prop} (h : OR n0 w4 f sets A1 c1 ob L rows u5 vn wr) (hr : rows.length = L.length) (ht : Tch S wr w')
    (ho' : ∀ g, vn.ownBlock = some g → ¬ S g) (hsp : Spares S wr 3) :
    ∃ An cn, vn = .slice An L.length cn ∧ AutRd w' w'.heap.size (tabA f L rows (List.range (firstL f).length)) A1 (firstL f).length c1 An L.length cn := by
  obtain ⟨xs, ho0, hn0⟩ := h.nds
  have ho := own_tch ho0 ht ho'
  have hn := hn0.keep ht (SpB.of hsp)
  rw [hr] at ho
  obtain ⟨An, cn, hv, hs⟩ := own_sl ho
  have hi := (h.ini.keep ht hsp).sl
  rw [List.length_range] at hi
  refine ⟨An, cn, hv, ⟨by simp [tabA, natI], by simp [tabA], hi, xs, hs, fun k x hk => ?_⟩⟩
  have hkl : k < L.length := by have := (List.getElem?_eq_some_iff.1 hk).1; rwa [tabA_len] at this
  have hc : L[k]? = some L[k] := List.getElem?_eq_getElem hkl
  have hx : x = ⟨L[k].1, L[k].2.1, meetsN f (natI (onL L[k].2.2.2)), natI (rows.getD k [])⟩ := by
    have := tabA_at (f := f) (rows := rows) (init := List.range (firstL f).length) hc
    unfold Aut.at at this
    rw [List.getD_eq_getElem?_getD, hk] at this
    exact this
  subst hx
  obtain ⟨A, cp, e0, e1, e2, e3, t⟩ := hn k _ (by omega) hc
  exact ⟨A, cp, e0, e1, e2, by rw [e3]; simp [natI], by simpa [natI] using t.t.sl⟩
end Go.Proofs.YtamhjgkigjpbhaaDoor

/- (XRf4) The walk of layer 29's reference: Of. -/
namespace Go.Proofs.YtamhjgkigjpbhaaDoor
open Go.RowKit Go.Maps

set_option maxHeartbeats 8000000 in
set_option maxRecDepth 100000 in
theorem tabOfR_any (A : Option Addr) (c : Nat) (f : List Nd) (w : World) (hf : Sl w w.heap.size 2 A f.length c (ncells f)) (hl : f.length ≤ 1000) (hq : isN f = true → f.length ≤ 50 → (untils f).length ≤ 16 → f.length ≤ 13) :
    Calls Tryd.prog 10 #[.slice A f.length c] w (AutPost w (ofA f) (ofE f)) := by
  have hb0 : Below w.heap.size w (w.alloc (.cells #[.int .i64 0, .slice none 0 0, .slice none 0 0] 28)) := (Below.refl _ _).alloc (Nat.le_refl _) _
  have hx0 := heap_alloc_new w (.cells #[.int .i64 0, .slice none 0 0, .slice none 0 0] 28)
  have hz0 : (w.alloc (.cells #[.int .i64 0, .slice none 0 0, .slice none 0 0] 28)).heap.size = w.heap.size + 1 := by simp
  obtain ⟨W0, hW0⟩ : ∃ W0, w.alloc (.cells #[.int .i64 0, .slice none 0 0, .slice none 0 0] 28) = W0 := ⟨_, rfl⟩
  rw [hW0] at hb0 hx0 hz0
  have HW0 := Lib.hid hW0
  have HF := Lib.hid hf
  have HQ := Lib.hid hq
  have HI := Lib.hid (IsR_any A c f W0 w.heap.size (hf.below hb0 (Nat.le_refl _)) (by omega) (by omega))
  clear hW0 hf hq
  cases hN : isN f
  · rw [hN] at HI
    have HN := Lib.hid hN
    clear hN
    go_enter Tryd.func10, Tryd.ntmps10
    go_wp2_with fail
    rw [HW0.out]
    refine Calls.mono HI.out ?_
    rintro e w2 ⟨rfl, hb2⟩
    have hx2 := (hb2.block w.heap.size (by omega)).trans hx0
    obtain ⟨k0, k1, k2⟩ := box3T hx2
    have kf0 := frozen_of_row _ _ 0 _ _ hx2
    have kf1 := frozen_of_row _ _ 1 _ _ hx2
    have kf2 := frozen_of_row _ _ 2 _ _ hx2
    have hset := set3T (a := .int .i64 0) (b := .slice none 0 0) (c := .slice none 0 0) hx2 rfl
    obtain ⟨g0, g1, g2⟩ := box3T hset
    have hb02 : Below w.heap.size w w2 := hb0.trans (hb2.mono (by omega))
    clear hset hx2
    go_wp2_with fail
    refine bodyPost_ret (v := .tuple #[.agg #[.int .i64 0, .slice none 0 0, .slice none 0 0], .int .i64 3]) ?_ rfl ?_
    · simp [results, Tryd.results10, go_sem, g0, g1, g2]
    · have hoe : ofE f = 3 := by unfold ofE; rw [if_pos HN.out]
      rw [hoe, ofA_bad (by rw [hoe]; decide)]
      exact ⟨none, 0, 0, none, 0, 0, rfl, autRd_nil _ _, bel3T hb02 (Nat.le_refl _) _ _ _⟩
  · rw [hN] at HI
    have HN := Lib.hid hN
    clear hN
    by_cases h50 : 50 < f.length
    · have h50' : (50 : Int) < (f.length : Int) := by omega
      go_enter Tryd.func10, Tryd.ntmps10
      go_wp2_with fail
      rw [HW0.out]
      refine Calls.mono HI.out ?_
      rintro e w2 ⟨rfl, hb2⟩
      have hx2 := (hb2.block w.heap.size (by omega)).trans hx0
      obtain ⟨k0, k1, k2⟩ := box3T hx2
      have kf0 := frozen_of_row _ _ 0 _ _ hx2
      have kf1 := frozen_of_row _ _ 1 _ _ hx2
      have kf2 := frozen_of_row _ _ 2 _ _ hx2
      have hset := set3T (a := .int .i64 0) (b := .slice none 0 0) (c := .slice none 0 0) hx2 rfl
      obtain ⟨g0, g1, g2⟩ := box3T hset
      have hb02 : Below w.heap.size w w2 := hb0.trans (hb2.mono (by omega))
      clear hset hx2
      go_wp2_with fail
      refine bodyPost_ret (v := .tuple #[.agg #[.int .i64 0, .slice none 0 0, .slice none 0 0], .int .i64 5]) ?_ rfl ?_
      · simp [results, Tryd.results10, go_sem, g0, g1, g2]
      · have hoe : ofE f = 5 := by unfold ofE; rw [if_neg (by rw [HN.out]; decide), if_pos h50]
        rw [hoe, ofA_bad (by rw [hoe]; decide)]
        exact ⟨none, 0, 0, none, 0, 0, rfl, autRd_nil _ _, bel3T hb02 (Nat.le_refl _) _ _ _⟩
    · have h50' : ¬ (50 : Int) < (f.length : Int) := by omega
      go_enter Tryd.func10, Tryd.ntmps10
      go_wp2_with fail
      rw [HW0.out]
      refine Calls.mono HI.out ?_
      rintro e w2 ⟨rfl, hb2⟩
      have hb02 : Below w.heap.size w w2 := hb0.trans (hb2.mono (by omega))
      have HU := Lib.hid (UntilsR_any A c f w2 w.heap.size (HF.out.below hb02 (Nat.le_refl _)) hb02.size (by omega))
      go_wp2_with fail
      refine Calls.mono HU.out ?_
      rintro e w3 ⟨vu, rfl, hou, hb3, -⟩
      have hb03 : Below w.heap.size w w3 := hb02.trans (hb3.mono hb02.size)
      obtain ⟨Au, cu, rfl, -⟩ := own_sl hou
      have hz2 := hb2.size
      have hz3 := hb3.size
      have hx3 := (hb3.block w.heap.size (by omega)).trans ((hb2.block w.heap.size (by omega)).trans hx0)
      clear hou hx0
      by_cases h16 : 16 < (untils f).length
      · have h16' : (16 : Int) < ((untils f).length : Int) := by omega
        obtain ⟨k0, k1, k2⟩ := box3T hx3
        have kf0 := frozen_of_row _ _ 0 _ _ hx3
        have kf1 := frozen_of_row _ _ 1 _ _ hx3
        have kf2 := frozen_of_row _ _ 2 _ _ hx3
        have hset := set3T (a := .int .i64 0) (b := .slice none 0 0) (c := .slice none 0 0) hx3 rfl
        obtain ⟨g0, g1, g2⟩ := box3T hset
        clear hset hx3
        go_wp2_with fail
        refine bodyPost_ret (v := .tuple #[.agg #[.int .i64 0, .slice none 0 0, .slice none 0 0], .int .i64 11]) ?_ rfl ?_
        · simp [results, Tryd.results10, go_sem, g0, g1, g2]
        · have hoe : ofE f = 11 := by unfold ofE; rw [if_neg (by rw [HN.out]; decide), if_neg h50, if_pos h16]
          rw [hoe, ofA_bad (by rw [hoe]; decide)]
          exact ⟨none, 0, 0, none, 0, 0, rfl, autRd_nil _ _, bel3T hb03 (Nat.le_refl _) _ _ _⟩
      · have h16' : ¬ (16 : Int) < ((untils f).length : Int) := by omega
        have h13 := HQ.out HN.out (by omega) (by omega)
        have hpos := isN_pos HN.out
        have hb4 : Below w3.heap.size w3 (w3.alloc (.cells #[.int .i64 ((f.length : Int) - 1)] 3)) := (Below.refl _ _).alloc (Nat.le_refl _) _
        have hx4 := heap_alloc_new w3 (.cells #[.int .i64 ((f.length : Int) - 1)] 3)
        have hz4 : (w3.alloc (.cells #[.int .i64 ((f.length : Int) - 1)] 3)).heap.size = w3.heap.size + 1 := by simp
        obtain ⟨W4, hW4⟩ : ∃ W4, w3.alloc (.cells #[.int .i64 ((f.length : Int) - 1)] 3) = W4 := ⟨_, rfl⟩
        rw [hW4] at hb4 hx4 hz4
        have HW4 := Lib.hid hW4
        have hb04 : Below w.heap.size w W4 := hb03.trans (hb4.mono hb03.size)
        have hps1 : ([(f.length : Int) - 1]).map Int.toNat = [f.length - 1] := by simp
        have hps2 : ∀ x ∈ [(f.length : Int) - 1], 0 ≤ x ∧ x < f.length := fun x hx => by simp at hx; omega
        have hgd := good_of HN.out h13 hps2
        have hask : askedL f [(f.length : Int) - 1] = firstL f := by unfold askedL; rw [if_pos hgd, hps1]; rfl
        have hp1 : ∀ x ∈ [f.length - 1], x < f.length := fun x hx => by simp at hx; omega
        have HO := ofR_any A c f (some ⟨w3.heap.size, 0, none⟩) 1 1 [(f.length : Int) - 1] W4 ((HF.out.below hb04 (Nat.le_refl _)).up hb04.size) (sl_blkT hx4 rfl (by simp [icells]) (by decide) (by omega)) rfl (by omega) (by omega)
          (fun _ => Nat.le_trans (leaves_13 HN.out h13 _ (startW_ok (by rw [hps1]; exact hp1))) (by omega))
        rw [hask] at HO
        have HO := Lib.hid HO
        obtain ⟨hnd, hok, hfl⟩ := cov_facts HN.out h13 hp1
        change (firstL f).Nodup at hnd
        change ∀ c ∈ firstL f, CovOk f.length c at hok
        change (firstL f).length ≤ 10000 at hfl
        have HND := Lib.hid hnd
        have HOK := Lib.hid hok
        have HX3 := Lib.hid hx3
        clear hnd hok hgd hps1 hps2 hask hp1 hx4 hW4 hx3 HI HU
        go_wp2_with fail
        rw [HW4.out]
        refine Calls.mono HO.out ?_
        rintro e w5 ⟨v5, xs5, rfl, ho5, hc5, hb5⟩
        obtain ⟨A5, c5, rfl, hs5⟩ := own_sl ho5
        have hb05 : Below w.heap.size w w5 := hb04.trans (hb5.mono hb04.size)
        have HAD := Lib.hid (addR_any f.length [] (firstL f) (.slice none 0 0) A5 c5 xs5 w5 (RowB.nil _ _) hs5 hc5 HND.out (fun x hx => by simp at hx) HOK.out (by omega) (by simp) hfl)
        clear ho5 hs5 hc5
        go_wp2_with fail
        refine Calls.mono HAD.out ?_
        rintro e w6 ⟨v6, A1, c1, rfl, hrow6, htl6, hb6⟩
        rw [once_nil HND.out] at hrow6 htl6
        rw [once_nil HND.out]
        rw [row_self HND.out, List.length_range] at htl6
        rw [row_self HND.out, List.length_range]
        have hb06 : Below w.heap.size w w6 := hb05.trans (hb6.mono hb05.size)
        have hz6 := hb6.size
        have hz5 := hb5.size
        have hx6 := (hb6.block w.heap.size (by omega)).trans ((hb5.block w.heap.size (by omega)).trans ((hb4.block w.heap.size (by omega)).trans HX3.out))
        have hb7 : Below w6.heap.size w6 (w6.alloc (.cells #[.int .i64 ((untils f).length : Nat), .slice A1 (firstL f).length c1, .slice none 0 0] 28)) := (Below.refl _ _).alloc (Nat.le_refl _) _
        have hx7 := heap_alloc_new w6 (.cells #[.int .i64 ((untils f).length : Nat), .slice A1 (firstL f).length c1, .slice none 0 0] 28)
        have hz7 : (w6.alloc (.cells #[.int .i64 ((untils f).length : Nat), .slice A1 (firstL f).length c1, .slice none 0 0] 28)).heap.size = w6.heap.size + 1 := by simp
        obtain ⟨W7, hW7⟩ : ∃ W7, w6.alloc (.cells #[.int .i64 ((untils f).length : Nat), .slice A1 (firstL f).length c1, .slice none 0 0] 28) = W7 := ⟨_, rfl⟩
        rw [hW7] at hb7 hx7 hz7
        have HW7 := Lib.hid hW7
        have hb07 : Below w.heap.size w W7 := hb06.trans (hb7.mono hb06.size)
        have HX7 := Lib.hid ((hb7.block w.heap.size (by omega)).trans hx6)
        have hinit : TSl W7 3 A1 (List.range (firstL f).length).length c1 (icells (natI (List.range (firstL f).length))) := by rw [List.length_range]; exact htl6.below hb7
        have hOR0 : OR (w.heap.size + 1) W7 f ((untils f).length : Nat) A1 c1 w6.heap.size (firstL f) [] v6 (.slice none 0 0) W7 := by
          refine ⟨Below.refl _ _, (hrow6.below hb7).mono (by omega), hx7, hinit, ⟨[], World.ownsRow_nil _ _ _ _, fun k c hk => by simp at hk⟩, firstL_inv HN.out hpos, by simp, ?_, ⟨by omega, by omega⟩⟩
          unfold tabL
          by_cases h : (firstL f).length ≤ 256
          · rw [if_pos h, if_neg (by omega)]; rfl
          · rw [if_neg h, if_pos (by omega)]
        clear hrow6 htl6 hinit hx7 hx6 hW7
        go_wp2_with fail
        rw [HW7.out]
        go_loopw [5, 8] (fun u v wr => ∃ (L : List Cov) (rows : List (List Nat)) (vn : Value), v = .int .i64 (rows.length : Nat) ∧ Hid (OR (w.heap.size + 1) W7 f ((untils f).length : Nat) A1 c1 w6.heap.size L rows u vn wr)) (fun _ v _ => 257 - (intOf v).toNat)
        case atStart => exact ⟨firstL f, [], .slice none 0 0, rfl, Lib.hid hOR0⟩
        case round =>
          obtain ⟨L, rows, vn, rfl, HOR⟩ := hrel
          clear hOR0
          have hrl := HOR.out.inv.le
          have hr256 := HOR.out.rl
          obtain ⟨A0, c0, xs0, rfl, hsl0, hty0, hcv0⟩ := HOR.out.row
          obtain ⟨q0, q1, q2⟩ := box3T HOR.out.box
          obtain ⟨xsn, hxsn, hndk⟩ := HOR.out.nds
          obtain ⟨An, cn, rfl, -⟩ := own_sl hxsn
          have hx := (HOR.out.bel.block w.heap.size (by omega)).trans HX7.out
          by_cases hlt : rows.length < L.length
          · have hlt' : (rows.length : Int) < (L.length : Int) := by omega
            have hr0 : (0 : Int) ≤ (rows.length : Int) := by omega
            by_cases h256 : 256 < L.length
            · have h256' : (256 : Int) < (L.length : Int) := by omega
              obtain ⟨k0, k1, k2⟩ := box3T hx
              have kf0 := frozen_of_row _ _ 0 _ _ hx
              have kf1 := frozen_of_row _ _ 1 _ _ hx
              have kf2 := frozen_of_row _ _ 2 _ _ hx
              have hset := set3T (a := .int .i64 0) (b := .slice none 0 0) (c := .slice none 0 0) hx rfl
              obtain ⟨g0, g1, g2⟩ := box3T hset
              have htn : tabL f = none := by have := HOR.out.it; rwa [if_neg (by omega)] at this
              have hbf : Below w.heap.size w wr := hb07.trans (HOR.out.bel.mono (by omega))
              have HTN := Lib.hid htn
              clear hset hx htn hsl0 hty0 hcv0 hxsn hndk q0 q1 q2
              go_wp2_with fail
              refine bodyPost_ret (v := .tuple #[.agg #[.int .i64 0, .slice none 0 0, .slice none 0 0], .int .i64 11]) ?_ rfl ?_
              · simp [results, Tryd.results10, go_sem, g0, g1, g2]
              · have hoe : ofE f = 11 := by unfold ofE; rw [if_neg (by rw [HN.out]; decide), if_neg h50, if_neg h16, HTN.out]
                rw [hoe, ofA_bad (by rw [hoe]; decide)]
                exact ⟨none, 0, 0, none, 0, 0, rfl, autRd_nil _ _, bel3T hbf (Nat.le_refl _) _ _ _⟩
            · have h256' : ¬ (256 : Int) < (L.length : Int) := by omega
              have hcL : L[rows.length]? = some L[rows.length] := List.getElem?_eq_getElem hlt
              have hmem : L[rows.length] ∈ L := List.getElem_mem hlt
              obtain ⟨x, hxe⟩ : ∃ x, L[rows.length] = x := ⟨_, rfl⟩
              rw [hxe] at hcL hmem
              obtain ⟨ps, hps1, hps2⟩ := HOR.out.inv.cov x hmem
              have hokx := (cov_facts HN.out h13 hps1).2.1 x hps2
              have hokL : ∀ y ∈ L, CovOk f.length y := fun y hy => by
                obtain ⟨ps', h1, h2⟩ := HOR.out.inv.cov y hy
                exact (cov_facts HN.out h13 h1).2.1 y h2
              obtain ⟨b2, o2, D1, d1, D2, d2, hA0, hbl, p0, p1, p2, p3, t1, t2⟩ := rd_cov hsl0.rd hcv0.at_ hcL
              subst hA0
              have hb8 : Below wr.heap.size wr (wr.alloc (.cells #[.int .u64 (x.1 : Int), .int .u64 (x.2.1 : Int), .slice D1 (onL x.2.2.1).length d1, .slice D2 (onL x.2.2.2).length d2] 62)) := (Below.refl _ _).alloc (Nat.le_refl _) _
              have hx8 := heap_alloc_new wr (.cells #[.int .u64 (x.1 : Int), .int .u64 (x.2.1 : Int), .slice D1 (onL x.2.2.1).length d1, .slice D2 (onL x.2.2.2).length d2] 62)
              have hz8 : (wr.alloc (.cells #[.int .u64 (x.1 : Int), .int .u64 (x.2.1 : Int), .slice D1 (onL x.2.2.1).length d1, .slice D2 (onL x.2.2.2).length d2] 62)).heap.size = wr.heap.size + 1 := by simp
              have m2 : (wr.alloc (.cells #[.int .u64 (x.1 : Int), .int .u64 (x.2.1 : Int), .slice D1 (onL x.2.2.1).length d1, .slice D2 (onL x.2.2.2).length d2] 62)).cell? ⟨wr.heap.size, 2, none⟩ = some (.slice D1 (onL x.2.2.1).length d1) := (box4' hx8).2.2.1
              obtain ⟨W8, hW8⟩ : ∃ W8, wr.alloc (.cells #[.int .u64 (x.1 : Int), .int .u64 (x.2.1 : Int), .slice D1 (onL x.2.2.1).length d1, .slice D2 (onL x.2.2.2).length d2] 62) = W8 := ⟨_, rfl⟩
              rw [hW8] at hb8 hx8 hz8
              have HW8 := Lib.hid hW8
              have hb0r : Below w.heap.size w wr := hb07.trans (HOR.out.bel.mono (by omega))
              have hb08 : Below w.heap.size w W8 := hb0r.trans (hb8.mono hb0r.size)
              have hlt1 : ∀ z ∈ onL x.2.2.1, z < f.length := onL_lt hokx.l1
              have hle1 : (onL x.2.2.1).length ≤ 1000 := Nat.le_trans (onL_len _) (by rw [hokx.l1]; omega)
              have hle2 : (onL x.2.2.2).length ≤ 1000 := Nat.le_trans (onL_len _) (by rw [hokx.l2]; omega)
              have hpz : ∀ z ∈ natI (onL x.2.2.1), 0 ≤ z ∧ z < f.length := fun z hz => by
                obtain ⟨m, hm, rfl⟩ := List.mem_map.1 hz
                have := hlt1 m hm
                omega
              have hask : askedL f (natI (onL x.2.2.1)) = coversL f (onL x.2.2.1) := by unfold askedL; rw [if_pos (good_of HN.out h13 hpz), natI_back]
              have HO8 := ofR_any A c f D1 (onL x.2.2.1).length d1 (natI (onL x.2.2.1)) W8 ((HF.out.below hb08 (Nat.le_refl _)).up hb08.size) ((t1.below hb8).sl) (by simp [natI]) (by omega) (by omega)
                (fun _ => Nat.le_trans (leaves_13 HN.out h13 _ (startW_ok (by rw [natI_back]; exact hlt1))) (by omega))
              rw [hask] at HO8
              have HO8 := Lib.hid HO8
              obtain ⟨hndT, hokT, hlT⟩ := cov_facts HN.out h13 hlt1
              obtain ⟨TT, hTT⟩ : ∃ TT, coversL f (onL x.2.2.1) = TT := ⟨_, rfl⟩
              rw [hTT] at hndT hokT hlT HO8
              have HTT := Lib.hid hTT
              have HNT := Lib.hid hndT
              have HOT := Lib.hid hokT
              have HOL := Lib.hid hokL
              have HROW0 := Lib.hid (show RowB wr.heap.size wr L (.slice (some ⟨b2, o2, none⟩) L.length c0) from ⟨_, c0, xs0, rfl, hsl0, hty0, hcv0⟩)
              have HXN0 := Lib.hid hxsn
              have HNK0 := Lib.hid hndk
              have HT2 := Lib.hid t2
              have HX8 := Lib.hid hx8
              have HCL := Lib.hid hcL
              have HBOX := Lib.hid HOR.out.box
              clear hxe hmem hps1 hps2 hokx hokL hlt1 hpz hask hTT hndT hokT hW8 hsl0 hty0 hcv0 hxsn hndk t1 t2 hx hx8 hcL
              go_wp2_with fail
              rw [HW8.out]
              refine Calls.mono HO8.out ?_
              rintro e w9 ⟨v9, xs9, rfl, ho9, hc9, hb9⟩
              obtain ⟨A9, c9, rfl, hs9⟩ := own_sl ho9
              have hz9 := hb9.size
              have hb9r : Below wr.heap.size wr w9 := hb8.trans (hb9.mono (by omega))
              have HAD9 := Lib.hid (addR_any f.length L TT (.slice (some ⟨b2, o2, none⟩) L.length c0) A9 c9 xs9 w9 ((HROW0.out.below hb9r).mono (by omega)) hs9 hc9 HNT.out HOL.out HOT.out (by omega) (by omega) hlT)
              clear ho9 hs9 hc9 p0 p1 p2 p3
              go_wp2_with fail
              refine Calls.mono HAD9.out ?_
              rintro e w10 ⟨v10, A11, c11, rfl, hrow10, htl10, hb10⟩
              have hz10 := hb10.size
              have hb10r : Below wr.heap.size wr w10 := hb9r.trans (hb10.mono hb9r.size)
              have hob6 := heap_lt HBOX.out
              have ho10 := (hb10r.block _ hob6).trans HBOX.out
              have hc10 := (hb10.block _ (by omega)).trans ((hb9.block _ (by omega)).trans HX8.out)
              have HROW10 := Lib.hid (hrow10.mono hz10)
              have HTL10 := Lib.hid htl10
              have HXN := Lib.hid (own_tch HXN0.out (Tch.of_below hb10r) (fun g hg => by have := (HXN0.out.lt g hg).2; omega))
              have HNK := Lib.hid ((HNK0.out.keep (Tch.of_below hb10r) (SpB.of (spares_new _ _))).mono hb10r.size)
              obtain ⟨we, hwe⟩ : ∃ we, w10.drew = we := ⟨_, rfl⟩
              have hbe : Below w10.heap.size w10 we := by rw [← hwe]; exact (Below.refl _ _).drew
              have HWE := Lib.hid hwe
              have hb010 : Below w.heap.size w w10 := hb0r.trans (hb10r.mono hb0r.size)
              have HM := Lib.hid (meetsR_any A c f (x.1 : Int) (x.2.1 : Int) (.slice D1 (onL x.2.2.1).length d1) D2 (onL x.2.2.2).length d2 (natI (onL x.2.2.2)) we w10.heap.size (((HF.out.below hb010 (Nat.le_refl _)).up hb010.size).below hbe (Nat.le_refl _)) (((HT2.out.below hb10r).sl).below hbe (Nat.le_refl _)) (by simp [natI]) hbe.size (by omega) (by omega))
              have hwn : w.heap.size + 1 ≤ w10.heap.size := by have := HOR.out.bel.size; have := hb10r.size; have := HOR.out.lt.1; omega
              have wi : IntKind.i64.wrap ((rows.length : Int) + 1) = rows.length + 1 := by rw [IntKind.wrap_i64]; omega
              obtain ⟨Ar10, cr10, xr10, rfl, -, -, -⟩ := hrow10
              clear hwe htl10 q0 q1 q2
              go_wp2_with fail
              refine wp_region_T (S := fun w' => w'.cell? ⟨w6.heap.size, 0, none⟩ = some (.int .i64 ((untils f).length : Nat)) ∧ w'.cell? ⟨w6.heap.size, 1, none⟩ = some (.slice A1 (firstL f).length c1) ∧ w'.cell? ⟨w6.heap.size, 2, none⟩ = some (.slice An rows.length cn) ∧ w'.cell? ⟨wr.heap.size, 0, none⟩ = some (.int .u64 (x.1 : Int)) ∧ w'.cell? ⟨wr.heap.size, 1, none⟩ = some (.int .u64 (x.2.1 : Int)) ∧ w'.cell? ⟨wr.heap.size, 2, none⟩ = some (.slice D1 (onL x.2.2.1).length d1) ∧ w'.cell? ⟨wr.heap.size, 3, none⟩ = some (.slice D2 (onL x.2.2.2).length d2)) 14 (by kernel_rfl) (⟨(box3T ho10).1, (box3T ho10).2.1, (box3T ho10).2.2, box4' hc10⟩) (fun hS => ?_)
              refine wpAnyT_takeD (i := 0) (v := ?_) rfl (by kernel_rfl) (by kernel_rfl) (by kernel_rfl) (by kernel_rfl) (fun _ _ _ h => h) (Or.inl ⟨by kernel_rfl, ?_⟩) hS ?_
              rotate_left 1
              · (intro w' hSw; (try dsimp only at hSw); go_simp; try (with_reducible rfl))
              try simp only [Act.put, List.setIfInBounds_toArray, List.set_cons_zero, List.set_cons_succ]
              refine wpAnyT_takeD (i := 1) (v := ?_) rfl (by kernel_rfl) (by kernel_rfl) (by kernel_rfl) (by kernel_rfl) (fun _ _ _ h => h) (Or.inl ⟨by kernel_rfl, ?_⟩) hS ?_
              rotate_left 1
              · (intro w' hSw; (try dsimp only at hSw); go_simp; try (with_reducible rfl))
              try simp only [Act.put, List.setIfInBounds_toArray, List.set_cons_zero, List.set_cons_succ]
              refine wpAnyT_takeD (i := 2) (v := ?_) rfl (by kernel_rfl) (by kernel_rfl) (by kernel_rfl) (by kernel_rfl) (fun _ _ _ h => h) (Or.inl ⟨by kernel_rfl, ?_⟩) hS ?_
              rotate_left 1
              · (intro w' hSw; (try dsimp only at hSw); go_simp; try (with_reducible rfl))
              try simp only [Act.put, List.setIfInBounds_toArray, List.set_cons_zero, List.set_cons_succ]
              refine wpAnyT_takeD (i := 3) (v := ?_) rfl (by kernel_rfl) (by kernel_rfl) (by kernel_rfl) (by kernel_rfl) (fun _ _ _ h => h) (Or.inl ⟨by kernel_rfl, ?_⟩) hS ?_
              rotate_left 1
              · (intro w' hSw; (try dsimp only at hSw); go_simp; try (with_reducible rfl))
              try simp only [Act.put, List.setIfInBounds_toArray, List.set_cons_zero, List.set_cons_succ]
              refine wpAnyT_takeD (i := 4) (v := ?_) rfl (by kernel_rfl) (by kernel_rfl) (by kernel_rfl) (by kernel_rfl) (fun _ _ _ h => h) (Or.inl ⟨by kernel_rfl, ?_⟩) hS ?_
              rotate_left 1
              · (intro w' hSw; (try dsimp only at hSw); go_simp; try (with_reducible rfl))
              try simp only [Act.put, List.setIfInBounds_toArray, List.set_cons_zero, List.set_cons_succ]
              refine wpAnyT_takeD (i := 5) (v := ?_) rfl (by kernel_rfl) (by kernel_rfl) (by kernel_rfl) (by kernel_rfl) (fun _ _ _ h => h) (Or.inl ⟨by kernel_rfl, ?_⟩) hS ?_
              rotate_left 1
              · (intro w' hSw; (try dsimp only at hSw); go_simp; try (with_reducible rfl))
              try simp only [Act.put, List.setIfInBounds_toArray, List.set_cons_zero, List.set_cons_succ]
              refine wpAnyT_takeD (i := 6) (v := ?_) rfl (by kernel_rfl) (by kernel_rfl) (by kernel_rfl) (by kernel_rfl) (fun _ _ _ h => h) (Or.inl ⟨by kernel_rfl, ?_⟩) hS ?_
              rotate_left 1
              · (intro w' hSw; (try dsimp only at hSw); go_simp; try (with_reducible rfl))
              try simp only [Act.put, List.setIfInBounds_toArray, List.set_cons_zero, List.set_cons_succ]
              refine wpAnyT_takeD (i := 7) (v := ?_) rfl (by kernel_rfl) (by kernel_rfl) (by kernel_rfl) (by kernel_rfl) (fun _ _ _ h => h) (Or.inl ⟨by kernel_rfl, ?_⟩) hS ?_
              rotate_left 1
              · (intro w' hSw; (try dsimp only at hSw); go_simp; try (with_reducible rfl))
              try simp only [Act.put, List.setIfInBounds_toArray, List.set_cons_zero, List.set_cons_succ]
              refine wpAnyT_takeD (i := 9) (v := ?_) rfl (by kernel_rfl) (by kernel_rfl) (by kernel_rfl) (by kernel_rfl) (fun _ _ _ h => h) (Or.inl ⟨by kernel_rfl, ?_⟩) hS ?_
              rotate_left 1
              · (intro w' hSw; (try dsimp only at hSw); go_simp; try (with_reducible rfl))
              try simp only [Act.put, List.setIfInBounds_toArray, List.set_cons_zero, List.set_cons_succ]
              refine wpAnyT_oneD (i := 8) rfl (by kernel_rfl) (by decide) (fun K hK => ?_)
              go_simp
              rw [HWE.out]
              refine Calls.mono HM.out ?_
              rintro e w11 ⟨rfl, hb11'⟩
              have hb11 : Below w10.heap.size w10 w11 := hbe.trans (hb11'.mono hbe.size)
              clear hb11'
              have ho11 := (hb11.block _ (heap_lt ho10)).trans ho10
              have hc11 := (hb11.block _ (heap_lt hc10)).trans hc10
              dsimp only
              refine hK.out _ _ ⟨(box3T ho11).1, (box3T ho11).2.1, (box3T ho11).2.2, box4' hc11⟩ (fun hS => ?_)
              clear hK
              try simp only [Act.put, List.setIfInBounds_toArray, List.set_cons_zero, List.set_cons_succ]
              refine wpAnyT_takeD (i := 10) (v := ?_) rfl (by kernel_rfl) (by kernel_rfl) (by kernel_rfl) (by kernel_rfl) (fun _ _ _ h => h) (Or.inl ⟨by kernel_rfl, ?_⟩) hS ?_
              rotate_left 1
              · (intro w' hSw; (try dsimp only at hSw); go_simp; try (with_reducible rfl))
              try simp only [Act.put, List.setIfInBounds_toArray, List.set_cons_zero, List.set_cons_succ]
              refine wpAnyT_oneD (i := 11) rfl (by kernel_rfl) (by decide) (fun K hK => ?_)
              go_simp
              obtain ⟨V12, hV12⟩ : ∃ V, V = w11.alloc (.cells #[.int .u64 (x.1 : Int), .int .u64 (x.2.1 : Int), .int .u64 ((meetsN f (natI (onL x.2.2.2)) : Nat) : Int), .slice A11 (rowL (onceC TT L) TT).length c11] 43) := ⟨_, rfl⟩
              have hq12 : Below w11.heap.size w11 V12 := by rw [hV12]; exact (Below.refl _ _).alloc (Nat.le_refl _) _
              have hn12 : V12.heap[w11.heap.size]? = some (.cells #[.int .u64 (x.1 : Int), .int .u64 (x.2.1 : Int), .int .u64 ((meetsN f (natI (onL x.2.2.2)) : Nat) : Int), .slice A11 (rowL (onceC TT L) TT).length c11] 43 (0, 0)) := by rw [hV12]; exact heap_alloc_new _ _
              rw [← hV12]
              clear hV12
              have hb12 : Below w10.heap.size w10 V12 := hb11.trans (hq12.mono hb11.size)
              have ho12 := (hb12.block _ (heap_lt ho10)).trans ho10
              have hc12 := (hb12.block _ (heap_lt hc10)).trans hc10
              have hxs12 := own_tch HXN.out (Tch.of_below hb12) (fun g hg => by have := (HXN.out.lt g hg).2; omega)
              have hnk12 := HNK.out.keep (Tch.of_below hb12) (SpB.of (spares_new _ _))
              refine hK.out _ _ ⟨(box3T ho12).1, (box3T ho12).2.1, (box3T ho12).2.2, box4' hc12⟩ (fun hS => ?_)
              clear hK
              try simp only [Act.put, List.setIfInBounds_toArray, List.set_cons_zero, List.set_cons_succ]
              refine wpAnyT_oneD (i := 12) rfl (by kernel_rfl) (by decide) (fun K hK => ?_)
              refine step_push rfl (.tmp 64) (.tmp 74) 26 rfl (w.heap.size + 1) 43 4 48 sliceANd _ _ _ hxs12 (by rfl) w11.heap.size #[.int .u64 (x.1 : Int), .int .u64 (x.2.1 : Int), .int .u64 ((meetsN f (natI (onL x.2.2.2)) : Nat) : Int), .slice A11 (rowL (onceC TT L) TT).length c11] (by rfl) hn12 rfl (by simp [Value.oneCell']) (by omega) (by omega) (by have := hb12.size; omega) ?_
              intro v13 V13 ho13' ht13 hat13 hne13
              obtain ⟨A13, c13, rfl, -⟩ := own_sl ho13'
              have ho13 := ht13.blk ho12 (own_ne_blk hxs12 ho12 (by decide))
              have hc13 := ht13.blk hc12 (own_ne_blk hxs12 hc12 (by decide))
              have kf13 := frozen_of_row _ _ 2 _ _ ho13
              obtain ⟨u0, u1, u2⟩ := box3T ho13
              refine hK.out _ _ ⟨(box3T ho13).1, (box3T ho13).2.1, (box3T ho13).2.2, box4' hc13⟩ (fun hS => ?_)
              clear hK
              try simp only [Act.put, List.setIfInBounds_toArray, List.set_cons_zero, List.set_cons_succ]
              refine wpAnyT_oneD (i := 13) rfl (by kernel_rfl) (by decide) (fun K hK => ?_)
              go_simp
              refine hK.out _ _ ⟨(box3T ho13).1, (box3T ho13).2.1, (box3T ho13).2.2, box4' hc13⟩ (fun hS => ?_)
              clear hK
              try simp only [Act.put, List.setIfInBounds_toArray, List.set_cons_zero, List.set_cons_succ]
              refine wpAnyT_endD rfl (by kernel_rfl) (by kernel_rfl) (fun K hK => ?_)
              go_simp
              refine hK.out _ _ ?_
              clear hK
              have HNEW := Lib.hid (HOR.out.step HN.out (by omega) hlt HCL.out hb10r HTT.out HROW10.out HTL10.out hb12 hxs12 hnk12 ht13 ho13')
              clear ht13 ho13' hat13 hne13 hxs12 hnk12 hb12 hn12 ho12 hc12 ho13 hc13 kf13 u0 u1 u2 hb11 ho11 hc11 ho10 hc10
              go_wp2_with fail
              go_roundw
              case rel => exact ⟨_, _, _, by rw [List.length_append, List.length_singleton]; go_num, HNEW⟩
              case measure => simp [intOf]; omega
          · have hlt' : ¬ (rows.length : Int) < (L.length : Int) := by omega
            have hrL : rows.length = L.length := by omega
            obtain ⟨k0, k1, k2⟩ := box3T hx
            have kf0 := frozen_of_row _ _ 0 _ _ hx
            have kf1 := frozen_of_row _ _ 1 _ _ hx
            have kf2 := frozen_of_row _ _ 2 _ _ hx
            have htab : tabL f = some (L, rows) := by
              have := HOR.out.it
              rw [if_pos (by omega), show 257 - rows.length = (256 - rows.length) + 1 by omega, tabIt_end (by omega)] at this
              exact this.symm
            have hoe : ofE f = 0 := by
              unfold ofE
              rw [if_neg (by rw [HN.out]; decide), if_neg h50, if_neg h16, htab]
            have hoa : ofA f = tabA f L rows (List.range (firstL f).length) := by unfold ofA; rw [hoe, if_pos rfl, htab]
            rw [hrL] at hxsn
            have hset := set3T (a := .int .i64 ((untils f).length : Nat)) (b := .slice A1 (firstL f).length c1) (c := .slice An rows.length cn) hx rfl
            obtain ⟨g0, g1, g2⟩ := box3T hset
            obtain ⟨V, hV⟩ : ∃ V, ((wr.setCell ⟨w.heap.size, 0, none⟩ (.int .i64 ((untils f).length : Nat))).setCell ⟨w.heap.size, 1, none⟩ (.slice A1 (firstL f).length c1)).setCell ⟨w.heap.size, 2, none⟩ (.slice An rows.length cn) = V := ⟨_, rfl⟩
            have htV : Tch (fun k => k = w.heap.size) wr V := by
              rw [← hV]
              exact (((Tch.refl (fun k => k = w.heap.size) wr).setCell (p := ⟨w.heap.size, 0, none⟩) (fun _ => rfl) _).setCell (p := ⟨w.heap.size, 1, none⟩) (fun _ => rfl) _).setCell (p := ⟨w.heap.size, 2, none⟩) (fun _ => rfl) _
            obtain ⟨An', cn', hAn, haut⟩ := HOR.out.aut hrL htV (fun gg hgg e => by obtain ⟨xs, ho, _⟩ := HOR.out.nds; have := (ho.lt gg hgg).1; omega) (spares_one hx (by decide))
            injection hAn with e1 e2 e3
            subst e1 e3
            rw [← e2] at haut
            have hbV : Below w.heap.size w V := (hb07.trans (HOR.out.bel.mono (by omega))).trans (htV.below (by have := HOR.out.bel.size; have := hb07.size; omega) (fun k hk e => by omega))
            rw [hV] at g0 g1 g2
            have HV := Lib.hid hV
            have HOA := Lib.hid hoa
            have HOE := Lib.hid hoe
            have HAUT := Lib.hid haut
            clear hset hV hoa hoe haut htab hx hsl0 hty0 hcv0 hxsn hndk e2 hrL
            go_wp2_with fail
            rw [HV.out]
            refine bodyPost_ret (v := .tuple #[.agg #[.int .i64 ((untils f).length : Nat), .slice A1 (firstL f).length c1, .slice An rows.length cn], .int .i64 0]) ?_ rfl ?_
            · simp [results, Tryd.results10, go_sem, g0, g1, g2]
            · rw [HOA.out, HOE.out]
              refine ⟨A1, _, c1, An, _, cn, ?_, HAUT.out, hbV⟩
              have hu : untils f = utl 0 f := utl_untils HN.out
              rw [hu]; rfl
end Go.Proofs.YtamhjgkigjpbhaaDoor
