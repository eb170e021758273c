/- The walk of tableau.said (layer 29). -/
import Derived.Test.YtamhjgkigjpbhaaDoorZaq
namespace Go.Proofs.YtamhjgkigjpbhaaDoor
open Go.RowKit Go.Shelf

def bytesI (l : List Int) : List UInt8 := l.map (fun n => UInt8.ofNat n.toNat)
theorem strOf_bytes (l : List Int) : strOfNums l = ⟨(bytesI l).toArray⟩ := rfl
theorem strOf_append (l m : List Int) : strOfNums l ++ strOfNums m = strOfNums (l ++ m) := by
  apply ByteArray.ext
  rw [ByteArray.data_append]
  simp [strOf_bytes, bytesI]
theorem hex_size (u : Nat) : (strOfNums (hexL u)).size ≤ 2 := by
  rw [strOfNums_size]; unfold hexL; split <;> simp
/-- A builder that has been written to: its letters. -/
def BldS (B b : Nat) (l : List Int) (w : World) : Prop := Bld B b (Lib.byteCells (bytesI l)) w
theorem bld_put {B b : Nat} {l m : List Int} {w : World} (h : Lib.BuilderAt 131 5 B b (.pointer (some ⟨b, 0, none⟩)) (Lib.byteCells (bytesI l) ++ Lib.strCells (strOfNums m)) w) : BldS B b (l ++ m) w := by
  refine .inr ?_
  have e : Lib.byteCells (bytesI (l ++ m)) = Lib.byteCells (bytesI l) ++ Lib.strCells (strOfNums m) := by
    rw [Lib.strCells_eq, strOf_bytes]; simp [bytesI, Lib.byteCells]
  rw [e]; exact h
theorem bld_write {B b : Nat} {l m : List Int} {w : World} (h : BldS B b l w) (hBw : B ≤ w.heap.size) (hlen : l.length + m.length ≤ 1000000) :
    Calls Tryd.prog 80 #[.pointer (some ⟨b, 0, none⟩), .string (strOfNums m)] w fun e w' => (∃ n : Int, e = .returned (.tuple #[.int .i64 n, .nilIface])) ∧ BldS B b (l ++ m) w' ∧ Below B w w' := by
  refine (bWriteS_any B b _ (strOfNums m) w h (by rw [Lib.byteCells_length, bytesI, List.length_map, strOfNums_size]; omega) hBw).mono ?_
  rintro e w' ⟨rfl, h1, h2⟩
  exact ⟨⟨_, rfl⟩, bld_put h1, h2⟩
theorem bld_byte {B b : Nat} {l : List Int} {w : World} (h : BldS B b l w) (hBw : B ≤ w.heap.size) (hlen : l.length ≤ 1000000) :
    Calls Tryd.prog 83 #[.pointer (some ⟨b, 0, none⟩), .int .u8 59] w fun e w' => e = .returned .nilIface ∧ BldS B b (l ++ [59]) w' ∧ Below B w w' := by
  refine (bWriteB_any B b _ 59 w h (by rw [Lib.byteCells_length, bytesI, List.length_map]; omega) hBw).mono ?_
  rintro e w' ⟨rfl, h1, h2⟩
  exact ⟨rfl, bld_put (m := [59]) h1, h2⟩
theorem bld_string {B b : Nat} {l : List Int} {w : World} (h : BldS B b l w) (h0 : l ≠ []) :
    Calls Tryd.prog 84 #[.pointer (some ⟨b, 0, none⟩)] w fun e w' => e = .returned (.string (strOfNums l)) ∧ Below B w w' :=
  bString_any B b (bytesI l) w h (by simpa [bytesI] using h0)
theorem nums_len : ∀ l : List Nat, (numsS l).length ≤ 3 * l.length
  | [] => by simp [numsS]
  | x :: l => by
    have h := nums_len l
    have h2 : (decL x).length ≤ 2 := by unfold decL; split <;> simp
    simp only [numsS, List.flatMap_cons, List.length_append, List.length_cons, List.length_nil] at h ⊢
    omega
theorem nums_snoc (l : List Nat) (k : Nat) (hk : k < l.length) : numsS (l.take (k + 1)) = numsS (l.take k) ++ (decL l[k] ++ [32]) := by
  unfold numsS
  rw [take_snoc l k hk, List.flatMap_append]
  simp only [List.flatMap_cons, List.flatMap_nil, List.append_nil]
set_option maxHeartbeats 4000000 in
set_option maxRecDepth 100000 in
theorem said_any (need ban : Nat) (hn : need < 256) (hb : ban < 256) (E1 : Option Addr) (e1 : Nat) (E2 : Option Addr) (e2 : Nat) (l1 l2 : List Nat) (w : World) (hT : TzTab w) (h1 : Sl w w.heap.size 1 E1 l1.length e1 (icells (natI l1))) (h2 : Sl w w.heap.size 1 E2 l2.length e2 (icells (natI l2)))
    (hl1 : ∀ x ∈ l1, x < 100) (hl2 : ∀ x ∈ l2, x < 100) (hk1 : l1.length ≤ 1000) (hk2 : l2.length ≤ 1000) :
    Calls Tryd.prog 58 #[.agg #[.int .u64 (need : Int), .int .u64 (ban : Int), .slice E1 l1.length e1, .slice E2 l2.length e2]] w fun e w' => e = .returned (.string (strOfNums (hexL need ++ 32 :: (hexL ban ++ 59 :: (numsS l1 ++ 59 :: numsS l2))))) ∧ Below w.heap.size w w' := by
  obtain ⟨hb0, p0, q0, z0⟩ := box5 w (.cells #[.int .u64 (need : Int), .int .u64 (ban : Int), .slice E1 l1.length e1, .slice E2 l2.length e2] 57) (.cells #[.pointer none, .slice none 0 0] 131)
  obtain ⟨W0, hW0⟩ : ∃ W0, (w.alloc (.cells #[.int .u64 (need : Int), .int .u64 (ban : Int), .slice E1 l1.length e1, .slice E2 l2.length e2] 57)).alloc (.cells #[.pointer none, .slice none 0 0] 131) = W0 := ⟨_, rfl⟩
  rw [hW0] at hb0 p0 q0 z0
  have HW0 := Lib.hid hW0
  have hT0 : TzTab W0 := tz_below hT hb0
  have K3 : Hid (W0.cell? ⟨w.heap.size, 3, none⟩ = some (.slice E2 l2.length e2)) := Lib.hid (by rw [cell_of_row _ _ _ _ _ _ p0]; rfl)
  have k0 : W0.cell? ⟨w.heap.size, 0, none⟩ = some (.int .u64 (need : Int)) := by rw [cell_of_row _ _ _ _ _ _ p0]; rfl
  have k1 : W0.cell? ⟨w.heap.size, 1, none⟩ = some (.int .u64 (ban : Int)) := by rw [cell_of_row _ _ _ _ _ _ p0]; rfl
  have k2 : W0.cell? ⟨w.heap.size, 2, none⟩ = some (.slice E1 l1.length e1) := by rw [cell_of_row _ _ _ _ _ _ p0]; rfl
  have k3 : W0.cell? ⟨w.heap.size, 3, none⟩ = some (.slice E2 l2.length e2) := by rw [cell_of_row _ _ _ _ _ _ p0]; rfl
  have hgl : w.heap.size < W0.heap.size := by omega
  have hbd : Below W0.heap.size W0 W0.drew := Below.drew (Below.refl _ _)
  obtain ⟨wd, hwd⟩ : ∃ wd, W0.drew = wd := ⟨_, rfl⟩
  rw [hwd] at hbd
  have HWD := Lib.hid hwd
  have hTd : TzTab wd := tz_below hT0 hbd
  have HF1 := Lib.hid (fun (w' : World) (h : TzTab w') => fmt16_any need hn w' h)
  have HF2 := Lib.hid (fun (w' : World) (h : TzTab w') => fmt16_any ban hb w' h)
  have sA := hex_size need
  have sB := hex_size ban
  obtain ⟨SA, hSA⟩ : ∃ SA, strOfNums (hexL need) = SA := ⟨_, rfl⟩
  obtain ⟨SB, hSB⟩ : ∃ SB, strOfNums (hexL ban) = SB := ⟨_, rfl⟩
  rw [hSA] at HF1 sA
  rw [hSB] at HF2 sB
  have HSAB : Hid (SA ++ ({ data := #[32] } : ByteArray) ++ SB ++ { data := #[59] } = strOfNums (hexL need ++ 32 :: (hexL ban ++ [59]))) := Lib.hid (by
    rw [← hSA, ← hSB, show ({ data := #[32] } : ByteArray) = strOfNums [32] from rfl, show ({ data := #[59] } : ByteArray) = strOfNums [59] from rfl, strOf_append, strOf_append, strOf_append]
    simp)
  have hs1 : ¬ 9223372036854775807 < SA.size + 1 := by omega
  have hs2 : ¬ 9223372036854775807 < SA.size + 1 + SB.size := by omega
  have hs2' : ¬ 9223372036854775807 < (SA ++ ({ data := #[32] } : ByteArray)).size + SB.size := by rw [ByteArray.size_append]; show ¬ 9223372036854775807 < SA.size + 1 + SB.size; omega
  have hs3 : ¬ 9223372036854775807 < SA.size + 1 + SB.size + 1 := by omega
  have hs3' : ¬ 9223372036854775807 < (SA ++ ({ data := #[32] } : ByteArray) ++ SB).size + 1 := by rw [ByteArray.size_append, ByteArray.size_append]; show ¬ 9223372036854775807 < SA.size + 1 + SB.size + 1; omega
  clear hW0 hwd
  go_enter Tryd.func58, Tryd.ntmps58
  go_wp2_with fail
  rw [HW0.out]
  have hbl0 : BldS (w.heap.size + 1) (w.heap.size + 1) [] W0 := .inl ⟨Nat.le_refl _, _, q0, World.ownsRow_nil _ _ _ _, by simp [Value.ownBlock]⟩
  have hB0 : w.heap.size + 1 ≤ W0.heap.size := by omega
  have hpl : (hexL need ++ 32 :: (hexL ban ++ [59])).length ≤ 6 := by
    have h1 : (hexL need).length ≤ 2 := by unfold hexL; split <;> simp
    have h2 : (hexL ban).length ≤ 2 := by unfold hexL; split <;> simp
    simp only [List.length_append, List.length_cons, List.length_nil]; omega
  refine wp_region_held_drew (S := fun w' => w'.cell? ⟨w.heap.size, 0, none⟩ = some (.int .u64 (need : Int)) ∧ w'.cell? ⟨w.heap.size, 1, none⟩ = some (.int .u64 (ban : Int))) (by kernel_rfl) ⟨k0, k1⟩ (fun hS => ?_)
  refine wpAnyH_takeD (i := 0) (v := ?_) rfl (by kernel_rfl) (by kernel_rfl) (by kernel_rfl) (fun _ _ _ h => h) (Or.inl ⟨by kernel_rfl, ?_⟩) hS ?_
  rotate_left 1
  · (intro w' hSw; (try dsimp only at hSw); go_simp; try (with_reducible rfl))
  try simp only [Act.put, List.setIfInBounds_toArray, List.set_cons_zero, List.set_cons_succ]
  refine wpAnyH_takeD (i := 1) (v := ?_) rfl (by kernel_rfl) (by kernel_rfl) (by kernel_rfl) (fun _ _ _ h => h) (Or.inl ⟨by kernel_rfl, ?_⟩) hS ?_
  rotate_left 1
  · (intro w' hSw; (try dsimp only at hSw); go_simp; try (with_reducible rfl))
  try simp only [Act.put, List.setIfInBounds_toArray, List.set_cons_zero, List.set_cons_succ]
  refine wpAnyH_takeD (i := 4) (v := ?_) rfl (by kernel_rfl) (by kernel_rfl) (by kernel_rfl) (fun _ _ _ h => h) (Or.inl ⟨by kernel_rfl, ?_⟩) hS ?_
  rotate_left 1
  · (intro w' hSw; (try dsimp only at hSw); go_simp; try (with_reducible rfl))
  try simp only [Act.put, List.setIfInBounds_toArray, List.set_cons_zero, List.set_cons_succ]
  refine wpAnyH_takeD (i := 5) (v := ?_) rfl (by kernel_rfl) (by kernel_rfl) (by kernel_rfl) (fun _ _ _ h => h) (Or.inl ⟨by kernel_rfl, ?_⟩) hS ?_
  rotate_left 1
  · (intro w' hSw; (try dsimp only at hSw); go_simp; try (with_reducible rfl))
  try simp only [Act.put, List.setIfInBounds_toArray, List.set_cons_zero, List.set_cons_succ]
  refine wpAnyH_oneD (i := 2) rfl (by kernel_rfl) (fun K hK => ?_)
  go_simp
  rw [HWD.out]
  refine Calls.mono (HF1.out wd hTd) ?_
  rintro e w1 ⟨rfl, hb1'⟩
  have hb1 : Below W0.heap.size W0 w1 := hbd.trans (hb1'.mono hbd.size)
  clear hb1'
  dsimp only
  refine hK.out _ _ ⟨(hb1.cell (p := ⟨w.heap.size, 0, none⟩) hgl).trans k0, (hb1.cell (p := ⟨w.heap.size, 1, none⟩) hgl).trans k1⟩ (fun hS => ?_)
  clear hK
  try simp only [Act.put, List.setIfInBounds_toArray, List.set_cons_zero, List.set_cons_succ]
  refine wpAnyH_takeD (i := 3) (v := ?_) rfl (by kernel_rfl) (by kernel_rfl) (by kernel_rfl) (fun _ _ _ h => h) (Or.inl ⟨by kernel_rfl, ?_⟩) hS ?_
  rotate_left 1
  · (intro w' hSw; (try dsimp only at hSw); go_simp; try (with_reducible rfl))
  try simp only [Act.put, List.setIfInBounds_toArray, List.set_cons_zero, List.set_cons_succ]
  refine wpAnyH_oneD (i := 6) rfl (by kernel_rfl) (fun K hK => ?_)
  go_simp
  refine Calls.mono (HF2.out w1 (tz_below hT0 hb1)) ?_
  rintro e w2 ⟨rfl, hb2'⟩
  have hb2 : Below W0.heap.size W0 w2 := hb1.trans (hb2'.mono hb1.size)
  clear hb2'
  dsimp only
  refine hK.out _ _ ⟨(hb2.cell (p := ⟨w.heap.size, 0, none⟩) hgl).trans k0, (hb2.cell (p := ⟨w.heap.size, 1, none⟩) hgl).trans k1⟩ (fun hS => ?_)
  clear hK
  try simp only [Act.put, List.setIfInBounds_toArray, List.set_cons_zero, List.set_cons_succ]
  refine wpAnyH_takeD (i := 7) (v := ?_) rfl (by kernel_rfl) (by kernel_rfl) (by kernel_rfl) (fun _ _ _ h => h) (Or.inl ⟨by kernel_rfl, ?_⟩) hS ?_
  rotate_left 1
  · (intro w' hSw; (try dsimp only at hSw); go_simp; try (with_reducible rfl))
  try simp only [Act.put, List.setIfInBounds_toArray, List.set_cons_zero, List.set_cons_succ]
  refine wpAnyH_takeD (i := 8) (v := ?_) rfl (by kernel_rfl) (by kernel_rfl) (by kernel_rfl) (fun _ _ _ h => h) (Or.inl ⟨by kernel_rfl, ?_⟩) hS ?_
  rotate_left 1
  · (intro w' hSw; (try dsimp only at hSw); go_simp; try (with_reducible rfl))
  try simp only [Act.put, List.setIfInBounds_toArray, List.set_cons_zero, List.set_cons_succ]
  refine wpAnyH_oneD (i := 9) rfl (by kernel_rfl) (fun K hK => ?_)
  go_simp
  rw [HSAB.out]
  refine Calls.mono (bld_write (l := []) (.inl ⟨Nat.le_refl _, _, (hb2.block _ (heap_lt q0)).trans q0, World.ownsRow_nil _ _ _ _, by simp [Value.ownBlock]⟩) (Nat.le_trans hB0 hb2.size) (by simp only [List.length_nil]; omega)) ?_
  rintro e w3 ⟨⟨n3, rfl⟩, hbl3, hb3'⟩
  have hb3 : Below (w.heap.size + 1) W0 w3 := (hb2.mono hB0).trans hb3'
  clear hb3'
  dsimp only
  refine hK.out _ _ ⟨(hb3.cell (p := ⟨w.heap.size, 0, none⟩) (show w.heap.size < w.heap.size + 1 by omega)).trans k0, (hb3.cell (p := ⟨w.heap.size, 1, none⟩) (show w.heap.size < w.heap.size + 1 by omega)).trans k1⟩ (fun hS => ?_)
  clear hK
  try simp only [Act.put, List.setIfInBounds_toArray, List.set_cons_zero, List.set_cons_succ]
  refine wpAnyH_done (by kernel_rfl) ?_ _
  clear hs1 hs2 hs2' hs3 hs3' HF1 HF2
  have hbw3 : Below w.heap.size w w3 := hb0.trans ((hb3.mono (by omega)))
  have HPRE := Lib.hid hpl
  obtain ⟨PRE, hPRE⟩ : ∃ PRE, hexL need ++ 32 :: (hexL ban ++ [59]) = PRE := ⟨_, rfl⟩
  rw [hPRE] at HPRE
  have HPREE := Lib.hid hPRE
  rw [List.nil_append, hPRE] at hbl3
  have k2' := (hb3.cell (p := ⟨w.heap.size, 2, none⟩) (show w.heap.size < w.heap.size + 1 by omega)).trans k2
  have k3' := (hb3.cell (p := ⟨w.heap.size, 3, none⟩) (show w.heap.size < w.heap.size + 1 by omega)).trans k3
  have hblz := hbl3
  have hbz := hb3
  have HLEN1 := HPRE
  clear k0 k1 k2 k3 hPRE hbl3 hb3 hbw3 hpl
  go_wp2_with fail
  have HL1 := Lib.hid hl1
  have hsz1 : BldS (w.heap.size + 1) (w.heap.size + 1) (PRE ++ numsS (l1.take 0)) w3 := by simpa [numsS] using hblz
  clear hblz
  go_loopw [21] (fun i wr => ∃ k : Nat, k ≤ l1.length ∧ i = .int .i64 k ∧ BldS (w.heap.size + 1) (w.heap.size + 1) (PRE ++ numsS (l1.take k)) wr ∧ Below (w.heap.size + 1) W0 wr) (fun i _ => l1.length - (intOf i).toNat)
  case atStart => exact ⟨0, by omega, rfl, hsz1, hbz⟩
  case round =>
    clear hsz1 hbz
    obtain ⟨k, hk, rfl, hbl, hbr⟩ := hrel
    by_cases hlt : k < l1.length
    · have hbw : Below w.heap.size w wr := hb0.trans (hbr.mono (by omega))
      obtain ⟨b, o, rfl, _, hc⟩ := (h1.below hbw (Nat.le_refl _)).rd.at_ (j := k) (u := .int .i64 (l1[k] : Int)) (by simp [icells, natI, hlt])
      have hx : l1[k] < 100 := HL1.out _ (List.getElem_mem hlt)
      have hsn := nums_snoc l1 k hlt
      have hnl := nums_len (l1.take k)
      have hdl : (decL l1[k]).length ≤ 2 := by unfold decL; split <;> simp
      generalize l1[k] = x at *
      have hsd : ¬ 9223372036854775807 < (strOfNums (decL x)).size + 1 := by rw [strOfNums_size]; omega
      have HDB : Hid (strOfNums (decL x) ++ ({ data := #[32] } : ByteArray) = strOfNums (decL x ++ [32])) := Lib.hid (by rw [show ({ data := #[32] } : ByteArray) = strOfNums [32] from rfl, strOf_append])
      have HSN := Lib.hid hsn
      have h0 : (0 : Int) ≤ (k : Int) := by omega
      have h1' : (k : Int) < (l1.length : Int) := by omega
      have wi : IntKind.i64.wrap ((k : Int) + 1) = k + 1 := by rw [IntKind.wrap_i64]; omega
      have hlen : (PRE ++ numsS (l1.take k)).length + (decL x ++ [32]).length ≤ 1000000 := by
        have hP := HLEN1.out
        rw [List.length_take] at hnl
        simp only [List.length_append, List.length_cons, List.length_nil] at hP ⊢
        omega
      have HI := Lib.hid (itoa_any x hx)
      clear hsn hnl hdl hx
      go_wp2_with fail
      refine Calls.mono (HI.out wr) ?_
      rintro e w' ⟨rfl, rfl⟩
      go_wp2_with fail
      rw [HDB.out]
      refine Calls.mono (bld_write hbl (Nat.le_trans hB0 hbr.size) hlen) ?_
      rintro e w2' ⟨⟨n2, rfl⟩, hbl', hb'⟩
      go_wp2
      go_roundw
      case rel => exact ⟨k + 1, by omega, by go_num, by rw [HSN.out, ← List.append_assoc]; exact hbl', hbr.trans (hb'.mono (Nat.le_refl _))⟩
      case measure => simp [intOf]; omega
    · have hkn : k = l1.length := by omega
      subst hkn
      rw [List.take_length] at hbl
      have hk3w := (hbr.cell (p := ⟨w.heap.size, 3, none⟩) (show w.heap.size < w.heap.size + 1 by omega)).trans K3.out
      have hl7 : (PRE ++ numsS l1).length ≤ 3006 := by
        have h := nums_len l1
        have hP := HPRE.out
        rw [List.length_append]; omega
      go_wp2_with fail
      refine Calls.mono (bld_byte hbl (Nat.le_trans hB0 hbr.size) (by omega)) ?_
      rintro e w5 ⟨rfl, hblz, hb5'⟩
      have hbz : Below (w.heap.size + 1) W0 w5 := hbr.trans (hb5'.mono (Nat.le_refl _))
      have k3'' := (hbz.cell (p := ⟨w.heap.size, 3, none⟩) (show w.heap.size < w.heap.size + 1 by omega)).trans K3.out
      clear hb5' hbr hbl hk3w
      have HLEN2 : Hid ((PRE ++ numsS l1 ++ [59]).length ≤ 3007) := Lib.hid (by rw [List.length_append, List.length_singleton]; omega)
      clear hl7
      go_wp2_with fail
      have HL2 := Lib.hid hl2
      have hsz2 : BldS (w.heap.size + 1) (w.heap.size + 1) (PRE ++ numsS l1 ++ [59] ++ numsS (l2.take 0)) w5 := by simpa [numsS] using hblz
      clear hblz
      go_loopw [34] (fun i wr => ∃ k : Nat, k ≤ l2.length ∧ i = .int .i64 k ∧ BldS (w.heap.size + 1) (w.heap.size + 1) (PRE ++ numsS l1 ++ [59] ++ numsS (l2.take k)) wr ∧ Below (w.heap.size + 1) W0 wr) (fun i _ => l2.length - (intOf i).toNat)
      case atStart => exact ⟨0, by omega, rfl, hsz2, hbz⟩
      case round =>
        clear hsz2 hbz
        obtain ⟨k, hk, rfl, hbl, hbr⟩ := hrel
        by_cases hlt : k < l2.length
        · have hbw : Below w.heap.size w wr := hb0.trans (hbr.mono (by omega))
          obtain ⟨b, o, rfl, _, hc⟩ := (h2.below hbw (Nat.le_refl _)).rd.at_ (j := k) (u := .int .i64 (l2[k] : Int)) (by simp [icells, natI, hlt])
          have hx : l2[k] < 100 := HL2.out _ (List.getElem_mem hlt)
          have hsn := nums_snoc l2 k hlt
          have hnl := nums_len (l2.take k)
          have hdl : (decL l2[k]).length ≤ 2 := by unfold decL; split <;> simp
          generalize l2[k] = x at *
          have hsd : ¬ 9223372036854775807 < (strOfNums (decL x)).size + 1 := by rw [strOfNums_size]; omega
          have HDB : Hid (strOfNums (decL x) ++ ({ data := #[32] } : ByteArray) = strOfNums (decL x ++ [32])) := Lib.hid (by rw [show ({ data := #[32] } : ByteArray) = strOfNums [32] from rfl, strOf_append])
          have HSN := Lib.hid hsn
          have h0 : (0 : Int) ≤ (k : Int) := by omega
          have h1' : (k : Int) < (l2.length : Int) := by omega
          have wi : IntKind.i64.wrap ((k : Int) + 1) = k + 1 := by rw [IntKind.wrap_i64]; omega
          have hlen : (PRE ++ numsS l1 ++ [59] ++ numsS (l2.take k)).length + (decL x ++ [32]).length ≤ 1000000 := by
            have hP := HLEN2.out
            rw [List.length_take] at hnl
            simp only [List.length_append, List.length_cons, List.length_nil] at hP ⊢
            omega
          have HI := Lib.hid (itoa_any x hx)
          clear hsn hnl hdl hx
          go_wp2_with fail
          refine Calls.mono (HI.out wr) ?_
          rintro e w' ⟨rfl, rfl⟩
          go_wp2_with fail
          rw [HDB.out]
          refine Calls.mono (bld_write hbl (Nat.le_trans hB0 hbr.size) hlen) ?_
          rintro e w2' ⟨⟨n2, rfl⟩, hbl', hb'⟩
          go_wp2
          go_roundw
          case rel => exact ⟨k + 1, by omega, by go_num, by rw [HSN.out, ← List.append_assoc]; exact hbl', hbr.trans (hb'.mono (Nat.le_refl _))⟩
          case measure => simp [intOf]; omega
        · have hkn : k = l2.length := by omega
          subst hkn
          rw [List.take_length] at hbl
          go_wp2_with fail
          refine Calls.mono (bld_string hbl (by simp)) ?_
          rintro e w7 ⟨rfl, hb7⟩
          go_wp2
          go_ret
          refine ⟨?_, hb0.trans ((hbr.mono (by omega)).trans (hb7.mono (by have := hbr.size; omega)))⟩
          rw [← HPREE.out]
          simp
end Go.Proofs.YtamhjgkigjpbhaaDoor
