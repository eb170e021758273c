/- The walk of math/bits.OnesCount64. -/
import Derived.Test.YtikhlcdgibnolaaDoorProg
import Derived.Test.YtikhlcdgibnolaaDoorMb
import Derived.Test.YtikhlcdgibnolaaDoorMa
import Derived.Outline
namespace Go.Proofs.YtikhlcdgibnolaaDoor
open Go.RowKit

theorem and_u64 {x y : Nat} (hx : x < 2 ^ 64) (hy : y < 2 ^ 64) : bits .and .u64 (x : Int) (y : Int) = ((x &&& y : Nat) : Int) := by
  have hand : x &&& y < 2 ^ 64 := Nat.lt_of_le_of_lt Nat.and_le_left hx
  show IntKind.u64.wrap ((BitVec.ofInt 64 (x : Int) &&& BitVec.ofInt 64 (y : Int)).toNat : Int) = _
  rw [BitVec.toNat_and, BitVec.ofInt_natCast, BitVec.toNat_ofNat, BitVec.ofInt_natCast, BitVec.toNat_ofNat, Nat.mod_eq_of_lt hx, Nat.mod_eq_of_lt hy, IntKind.wrap_u64]
  omega
theorem and_127 {x : Nat} (hx : x < 2 ^ 63) : bits .and .i64 (x : Int) 127 = ((x % 128 : Nat) : Int) := by
  have e : x &&& 127 = x % 128 := Nat.and_two_pow_sub_one_eq_mod x 7
  have hm := Nat.mod_lt x (show 0 < 128 by omega)
  show IntKind.i64.wrap ((BitVec.ofInt 64 (x : Int) &&& BitVec.ofInt 64 ((127 : Nat) : Int)).toNat : Int) = _
  rw [BitVec.toNat_and, BitVec.ofInt_natCast, BitVec.toNat_ofNat, BitVec.ofInt_natCast, BitVec.toNat_ofNat, Nat.mod_eq_of_lt (by omega), Nat.mod_eq_of_lt (by omega), e, IntKind.wrap_i64]
  omega
theorem wrap_nat {x : Int} (h0 : 0 ≤ x) (h : x < 18446744073709551616) : IntKind.u64.wrap x = x := by rw [IntKind.wrap_u64]; omega
theorem pc_le (x : Nat) : pc x ≤ 64 := by
  have := List.countP_le_length (p := x.testBit) (l := List.range 64)
  rw [List.length_range] at this; exact this

set_option maxHeartbeats 1000000 in
theorem ones_any (x : Nat) (w : World) (hx : x < 2 ^ 64) : Calls Tryd.prog 37 #[.int .u64 (x : Int)] w fun e w' => e = .returned (.int .i64 (pc x : Nat)) ∧ w = w' := by
  have hx8 : x < 256 ^ 8 := by omega
  have hs := s3_sums 8 x hx8
  have hf := pc_fold hs.1
  have hl1 := s1_lt 8 x hx8
  have hl2 := s2_lt 8 x hx8
  have m1 : rep 85 8 = 6148914691236517205 := by decide
  have m2 : rep 51 8 = 3689348814741910323 := by decide
  have m3 : rep 15 8 = 1085102592571150095 := by decide
  have g1 : s1 8 x = (x / 2 &&& 6148914691236517205) + (x &&& 6148914691236517205) := by rw [s1, m1]
  have g2 : s2 8 (s1 8 x) = (s1 8 x / 4 &&& 3689348814741910323) + (s1 8 x &&& 3689348814741910323) := by rw [s2, m2]
  have g3 : s3 8 (s2 8 (s1 8 x)) = (s2 8 (s1 8 x) / 16 + s2 8 (s1 8 x)) &&& 1085102592571150095 := by rw [s3, m3]
  have hc := hs.2
  generalize s3 8 (s2 8 (s1 8 x)) = z at *
  generalize s2 8 (s1 8 x) = y2 at *
  generalize s1 8 x = y1 at *
  clear hs m1 m2 m3
  have a1 : bits .and .u64 ((x : Int) / 2) 6148914691236517205 = ((x / 2 &&& 6148914691236517205 : Nat) : Int) := and_u64 (x := x / 2) (y := 6148914691236517205) (by omega) (by decide)
  have a2 : bits .and .u64 (x : Int) 6148914691236517205 = ((x &&& 6148914691236517205 : Nat) : Int) := and_u64 (y := 6148914691236517205) hx (by decide)
  have a3 : IntKind.u64.wrap (((x / 2 &&& 6148914691236517205 : Nat) : Int) + ((x &&& 6148914691236517205 : Nat) : Int)) = (y1 : Int) := by rw [wrap_nat (by omega) (by omega)]; omega
  have b1 : bits .and .u64 ((y1 : Int) / 4) 3689348814741910323 = ((y1 / 4 &&& 3689348814741910323 : Nat) : Int) := and_u64 (x := y1 / 4) (y := 3689348814741910323) (by omega) (by decide)
  have b2 : bits .and .u64 (y1 : Int) 3689348814741910323 = ((y1 &&& 3689348814741910323 : Nat) : Int) := and_u64 (y := 3689348814741910323) (by omega) (by decide)
  have b3 : IntKind.u64.wrap (((y1 / 4 &&& 3689348814741910323 : Nat) : Int) + ((y1 &&& 3689348814741910323 : Nat) : Int)) = (y2 : Int) := by rw [wrap_nat (by omega) (by omega)]; omega
  obtain ⟨y3, hy3⟩ : ∃ y3, y3 = y2 / 16 + y2 := ⟨_, rfl⟩
  rw [← hy3] at g3 hc
  have c1 : IntKind.u64.wrap ((y2 : Int) / 16 + (y2 : Int)) = (y3 : Int) := by rw [wrap_nat (by omega) (by omega)]; omega
  have c2 : bits .and .u64 (y3 : Int) 1085102592571150095 = (z : Int) := by rw [g3]; exact and_u64 (y := 1085102592571150095) (by omega) (by decide)
  obtain ⟨f0, f1, f2, f3⟩ := hf
  have hp := pc_le x
  generalize pc x = p at *
  have hz : z < 2 ^ 64 := by omega
  obtain ⟨z1, hz1⟩ : ∃ z1, z1 = z + z / 256 := ⟨_, rfl⟩
  rw [← hz1] at f0 f1 f2 f3
  obtain ⟨z2, hz2⟩ : ∃ z2, z2 = z1 + z1 / 65536 := ⟨_, rfl⟩
  rw [← hz2] at f0 f2 f3
  obtain ⟨z3, hz3⟩ : ∃ z3, z3 = z2 + z2 / 4294967296 := ⟨_, rfl⟩
  rw [← hz3] at f0 f3
  have d1 : IntKind.u64.wrap ((z : Int) + (z : Int) / 256) = (z1 : Int) := by rw [wrap_nat (by omega) (by omega)]; omega
  have d2 : IntKind.u64.wrap ((z1 : Int) + (z1 : Int) / 65536) = (z2 : Int) := by rw [wrap_nat (by omega) (by omega)]; omega
  have d3 : IntKind.u64.wrap ((z2 : Int) + (z2 : Int) / 4294967296) = (z3 : Int) := by rw [wrap_nat (by omega) (by omega)]; omega
  have hz63 : wrap64 (z3 : Int) = (z3 : Int) := by unfold wrap64; omega
  have hbig : bits .and .i64 (z3 : Int) 127 = (p : Int) := by rw [and_127 f3, f0]
  clear g1 g2 g3 hy3 hz1 hz2 hz3 f0 f1 f2 f3 hc hl1 hl2 hx8 hp
  go_enter Tryd.func37, Tryd.ntmps37
  go_wp2
  go_ret
  exact ⟨rfl, rfl⟩
end Go.Proofs.YtikhlcdgibnolaaDoor
