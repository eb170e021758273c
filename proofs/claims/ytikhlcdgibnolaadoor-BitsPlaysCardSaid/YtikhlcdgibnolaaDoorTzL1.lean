/- Law BitsLeaves: a set's numbers may be left at any place, and gone over again. -/
import Derived.Test.YtikhlcdgibnolaaDoorTz4
import Derived.Test.YtikhlcdgibnolaaDoorTr4
import Derived.Test.YtikhlcdgibnolaaDoorBw5
namespace Go.Proofs.YtikhlcdgibnolaaDoor
open Go.RowKit Go.Shelf

theorem SameW.of {n : Nat} : ∀ (l : List Int) {W : List Nat} {x : List Bool}, SameW n W x → SameW n (putsI n l W) (ofL n l x)
  | [], _, _, h => h
  | i :: l, W, x, h => by
    have hs : SameW n (putI n W i) (if inB n i = true then x.set i.toNat true else x) := by
      unfold putI
      by_cases hi : inB n i = true
      · rw [if_pos hi, if_pos hi]
        exact h.put (by simp [inB] at hi; omega)
      · rw [if_neg hi, if_neg hi]; exact h
    exact SameW.of l hs
theorem slice_toI {A : Option Addr} {n c k : Nat} (hk : k ≤ c) (w : World) : (Instr.sliceAt 26 (.slice A n c) none (some (.int .i64 (k : Int))) none).run Tryd.prog w = .ok (.slice A k c) w := by
  rw [run_sliceAt_slice _ _ _ _ _ _ (by kernel_rfl), run_slice_h _ _ _ _ _ (by kernel_rfl) _ _ (by omega) (by omega)]
  have : (sizeOf (Tryd.prog.elem 26)).run Tryd.prog w = .ok 1 w := by kernel_rfl
  rw [this]
  have he : (if c = 0 then A else A.map (·.add (0 * 1))) = A := by
    split
    · rfl
    · cases A with
      | none => rfl
      | some a => simp [Addr.add]
  simp only [Result.andThen, sliced, Int.toNat_natCast, Nat.sub_zero, he]
set_option maxHeartbeats 4000000 in
set_option maxRecDepth 100000 in
theorem BitsLeaves_any (n : Int) (A : Option Addr) (m c : Nat) (l : List Int) (mo : Int) (w : World) (hm : m = l.length) (hs : Sl w w.heap.size 1 A m c (icells l)) (hl : m ≤ 17592186044416) (hmo : 0 ≤ mo ∧ mo ≤ 255) (hg : 0 < w.heap.size) (hT : TabAt 0 Lib.deBruijn64tab w) :
    Calls Tryd.prog 5 #[.int .i64 n, .slice A m c, .int .u8 mo] w (Tru w true) := by
  have hcase : 300 < n ∨ (n ≤ 300 ∧ 100 < m) ∨ (n ≤ 300 ∧ m ≤ 100 ∧ n < 0) ∨ (m ≤ 100 ∧ 0 ≤ n ∧ n ≤ 300) := by omega
  rcases hcase with h | ⟨h, h'⟩ | ⟨h, h', h0⟩ | ⟨h', h0, h⟩
  · have d1 : decide (300 < n) = true := by simpa using h
    clear hm
    go_enter Tryd.func5, Tryd.ntmps5
    go_wp2_with fail
    refine (bawake_any _).mono ?_
    rintro e w1 ⟨rfl, hb1⟩
    go_wp2
    go_ret
    exact ⟨rfl, hb1⟩
  · have d1 : decide (300 < n) = false := by simpa using h
    have d2 : (100 : Int) < (m : Int) := by omega
    clear hm
    go_enter Tryd.func5, Tryd.ntmps5
    go_wp2_with fail
    refine (bawake_any _).mono ?_
    rintro e w1 ⟨rfl, hb1⟩
    go_wp2
    go_ret
    exact ⟨rfl, hb1⟩
  · have d1 : decide (300 < n) = false := by simpa using h
    have d2 : decide ((100 : Int) < (m : Int)) = false := by simp; omega
    have HA := Lib.hid (bofNil_any n A m c l w w.heap.size (.inl h0) hm hs)
    have HR := Lib.hid (rOfNil_any n A m c l w w.heap.size (.inl h0) hm hs)
    clear hm h0
    go_enter Tryd.func5, Tryd.ntmps5
    go_wp2_with fail
    refine Calls.mono HA.out ?_
    rintro e w' ⟨rfl, rfl⟩
    go_wp2_with fail
    refine Calls.mono HR.out ?_
    rintro e w' ⟨rfl, rfl⟩
    go_wp2_with fail
    refine (bawake_any _).mono ?_
    rintro e w1 ⟨rfl, hb1⟩
    go_wp2
    go_ret
    exact ⟨rfl, hb1⟩
  obtain ⟨n, rfl⟩ := Int.eq_ofNat_of_zero_le h0
  obtain ⟨mo, rfl⟩ := Int.eq_ofNat_of_zero_le hmo.1
  have d1 : decide ((300 : Int) < (n : Int)) = false := by simp; omega
  have d2 : decide ((100 : Int) < (m : Int)) = false := by simp; omega
  have hn3 : n ≤ 300 := by omega
  have hmo2 : (mo : Int) ≤ 255 := hmo.2
  have HA := Lib.hid (bof_any n A m c l w w.heap.size (by omega) hm hs (Nat.le_refl _))
  have HB := Lib.hid (fun (w' : World) (hb : Below w.heap.size w w') => rOf_any n A m c l w' w.heap.size (by omega) hm (hs.below hb (Nat.le_refl _)) hb.size hl)
  have hSW : SameW n (putsI n l (List.replicate ((n + 63) / 64) 0)) (ofL n l (List.replicate n false)) := SameW.of l (SameW.start n)
  generalize putsI n l (List.replicate ((n + 63) / 64) 0) = X at *
  generalize ofL n l (List.replicate n false) = x at *
  have hnum := hSW.nums
  have hxl := hSW.len
  have hLe := allL_le x
  have HL := Lib.hid hxl
  have hTab := fun (w' : World) (hb : Below w.heap.size w w') => tab_below hT hg hb
  have HTAB := Lib.hid hTab
  clear hm hs hT hTab hmo h0 hSW hxl
  go_enter Tryd.func5, Tryd.ntmps5
  go_wp2_with fail
  refine Calls.mono HA.out ?_
  rintro e w1 ⟨S, q, rfl, hS, _, _, hb1⟩
  go_wp2_with fail
  refine Calls.mono (HB.out _ hb1) ?_
  rintro e w2 ⟨g, rfl, hown, hb2⟩
  have hS2 := hS.below hb2
  have hb02 := hb1.trans (hb2.mono hb1.size)
  obtain ⟨A2, c2, he2, hs2⟩ := own_sl hown
  cases he2
  clear hS HA HB hb2 hown
  have HAL := Lib.hid (rAll_any _ n n x w2 w2.heap.size hs2 (Nat.le_refl _) HL.out.symm (by omega))
  go_wp2_with fail
  refine Calls.mono HAL.out ?_
  rintro e w3 ⟨v3, rfl, hown3, hb3, _⟩
  obtain ⟨A3, c3, rfl, hs3⟩ := own_sl hown3
  have hS3 := hS2.below hb3
  have hb03 := hb02.trans (hb3.mono hb02.size)
  clear HAL hown3 hS2 hs2
  have HN := Lib.hid (fun (w' : World) (hb : Below w3.heap.size w3 w') => numbers_any S q n X w' (1 + mo) (by omega) (by omega) (Nat.lt_of_lt_of_le hg (Nat.le_trans hb03.size hb.size)) (hS3.below hb) (HTAB.out w' (hb03.trans (hb.mono hb03.size))))
  rw [hnum] at HN
  have eK : ((1 + mo : Nat) : Int) = 1 + (mo : Int) := by omega
  rw [eK] at HN
  have hLen : ((allL x).take (1 + mo)).length ≤ (allL x).length := by rw [List.length_take]; omega
  have hx300 : (allL x).length ≤ 300 := by have := HL.out; omega
  have hmin : ((allL x).take (1 + mo)).length = min (1 + mo) (allL x).length := List.length_take
  have HMIN := Lib.hid hmin
  clear hnum eK hLe hmin
  generalize hT4 : (allL x).take (1 + mo) = T4 at *
  have HT4 := Lib.hid hT4
  clear hT4
  generalize allL x = L at *
  go_wp2_with fail
  refine Calls.mono (HN.out _ (Below.refl _ _)) ?_
  rintro e w4 ⟨A4, c4, rfl, hs4, hb4⟩
  go_wp2_with fail
  refine Calls.mono (HN.out _ hb4) ?_
  rintro e w5 ⟨A5, c5, rfl, hs5, hb5⟩
  have hs35 := (hs3.below hb4 (Nat.le_refl _)).below hb5 hb4.size
  have hs45 := hs4.below hb5 (Nat.le_refl _)
  have hb05 := (hb03.trans (hb4.mono hb03.size)).trans (hb5.mono (hb03.trans (hb4.mono hb03.size)).size)
  have hcap := hs35.cap
  have hsl := fun (k : Nat) (hk : k ≤ c3) (w' : World) => slice_toI (A := A3) (n := L.length) hk w'
  have hz45 := hb5.size
  clear HN hs3 hs4 hb4 hb5 hsl
  by_cases hc : L.length < 1 + mo
  · have hc' : (L.length : Int) < 1 + (mo : Int) := by omega
    have hsl := slice_toI (A := A3) (n := L.length) hcap w5
    have hTL : T4 = L := by rw [← HT4.out]; exact List.take_of_length_le (by omega)
    subst hTL
    have H5 := Lib.hid (sameI3_any A4 A3 T4.length c4 T4.length c3 (natI T4) (natI T4) w5 _ _ hs45 hs35 (natI_len T4).symm (natI_len T4).symm (by omega))
    clear hc
    go_wp2_with fail
    refine Calls.mono H5.out ?_
    rintro e w6 ⟨rfl, m6, hw6⟩
    have hb6 := below_len3 hw6
    have H6 := Lib.hid (sameI3_any A5 A4 T4.length c5 T4.length c4 (natI T4) (natI T4) w6 _ _ (hs5.below hb6 (Nat.le_refl _)) (hs45.below hb6 (Nat.le_trans (Nat.le_of_eq rfl) hz45)) (natI_len T4).symm (natI_len T4).symm (by omega))
    have hb06 := hb05.trans (hb6.mono hb05.size)
    clear hw6
    go_wp2_with fail
    refine Calls.mono H6.out ?_
    rintro e w7 ⟨rfl, m7, hw7⟩
    have hb7 := below_len3 hw7
    clear hw7
    go_wp2_with fail
    refine (bawake_any _).mono ?_
    rintro e w8 ⟨rfl, hb8⟩
    go_wp2
    go_ret
    exact ⟨ret_bool (by simp), (hb06.trans (hb7.mono hb06.size)).trans (hb8.mono (hb06.trans (hb7.mono hb06.size)).size)⟩
  · have hc' : 1 + (mo : Int) ≤ (L.length : Int) := by omega
    have hl4 : T4.length = 1 + mo := by rw [HMIN.out]; omega
    have hsl := slice_toI (A := A3) (n := L.length) (k := T4.length) (Nat.le_trans hLen hcap) w5
    have e4 : ((T4.length : Nat) : Int) = 1 + (mo : Int) := by omega
    have hst := hs35.take hLen
    have e5 : (icells (natI L)).take (T4.length * 1) = icells (natI T4) := by
      rw [Nat.mul_one, hl4, ← HT4.out]
      simp [icells, natI, List.map_take]
    rw [e5] at hst
    rw [e4] at hsl
    have H5 := Lib.hid (sameI3_any A4 A3 T4.length c4 T4.length c3 (natI T4) (natI T4) w5 _ _ hs45 hst (natI_len T4).symm (natI_len T4).symm (by omega))
    clear hc e4 e5 hl4
    go_wp2_with fail
    refine Calls.mono H5.out ?_
    rintro e w6 ⟨rfl, m6, hw6⟩
    have hb6 := below_len3 hw6
    have H6 := Lib.hid (sameI3_any A5 A4 T4.length c5 T4.length c4 (natI T4) (natI T4) w6 _ _ (hs5.below hb6 (Nat.le_refl _)) (hs45.below hb6 (Nat.le_trans (Nat.le_of_eq rfl) hz45)) (natI_len T4).symm (natI_len T4).symm (by omega))
    have hb06 := hb05.trans (hb6.mono hb05.size)
    clear hw6
    go_wp2_with fail
    refine Calls.mono H6.out ?_
    rintro e w7 ⟨rfl, m7, hw7⟩
    have hb7 := below_len3 hw7
    clear hw7
    go_wp2_with fail
    refine (bawake_any _).mono ?_
    rintro e w8 ⟨rfl, hb8⟩
    go_wp2
    go_ret
    exact ⟨ret_bool (by simp), (hb06.trans (hb7.mono hb06.size)).trans (hb8.mono (hb06.trans (hb7.mono hb06.size)).size)⟩
end Go.Proofs.YtikhlcdgibnolaaDoor
