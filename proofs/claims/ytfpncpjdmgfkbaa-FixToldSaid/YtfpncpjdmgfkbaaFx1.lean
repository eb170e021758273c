/- The walks of fix: has, node. -/
import Derived.Test.YtfpncpjdmgfkbaaFixP
import Derived.Test.YtfpncpjdmgfkbaaGr19
namespace Go.Proofs.Ytfpncpjdmgfkbaa
open Go.RowKit

set_option maxHeartbeats 400000 in
theorem has_any (A : Option Addr) (n c : Nat) (s : List Bool) (i : Int) (w : World) (B : Nat) (hn : n = s.length) (hs : Sl w B 1 A n c (s.map .bool)) (_hB : B ≤ w.heap.size) :
    Calls Try.prog 67 #[.slice A n c, .int .i64 i] w (Tru w (hasB s i)) := by
  subst hn
  have hb := fun o => (Below.refl w.heap.size w).alloc (Nat.le_refl _) o
  by_cases h0 : 0 ≤ i
  · obtain ⟨k, rfl⟩ := Int.eq_ofNat_of_zero_le h0
    have h0' : decide ((0:Int) ≤ (k : Int)) = true := by simp
    by_cases h1 : k < s.length
    · have h1' : decide ((k : Int) < (s.length : Int)) = true := by simpa using h1
      have h1'' : decide (k < s.length) = true := by simpa using h1
      obtain ⟨b, o, rfl, _, hc⟩ := hs.rd.at_ (bcells'_at h1)
      have hr : hasB s (k : Int) = s.getD k false := hasB_nat h1
      have HR := Lib.hid hr
      clear hr
      generalize s.getD k false = x at *
      go_enter Try.func67, Try.ntmps67
      go_wp2
      go_ret
      exact ⟨ret_bool (by simp [HR.out]), Below.refl _ _⟩
    · have h1' : decide ((k : Int) < (s.length : Int)) = false := by simpa using h1
      have h1'' : decide (k < s.length) = false := by simpa using h1
      have hr : hasB s (k : Int) = false := by simp [hasB, isNd, h1]
      have HR := Lib.hid hr
      clear hr
      go_enter Try.func67, Try.ntmps67
      go_wp2
      go_ret
      exact ⟨ret_bool (by simp [HR.out]), Below.refl _ _⟩
  · have h0' : decide (0 ≤ i) = false := by simpa using h0
    have hr : hasB s i = false := by simp [hasB, isNd, h0]
    have HR := Lib.hid hr
    clear hr
    go_enter Try.func67, Try.ntmps67
    go_wp2
    go_ret
    exact ⟨ret_bool (by simp [HR.out]), Below.refl _ _⟩

section
variable (ai ae al : Option Addr) (ni ci ne ce nl cl : Nat)
set_option maxHeartbeats 400000 in
theorem fnode_any (i : Int) (w : World) : Calls Try.prog 87 #[.agg #[.slice ai ni ci, .slice ae ne ce, .slice al nl cl], .int .i64 i] w (Tru w (isNd ne i)) := by
  have hb := fun o => (Below.refl w.heap.size w).alloc (Nat.le_refl _) o
  by_cases h0 : 0 ≤ i
  · have h0' : decide (0 ≤ i) = true := by simpa using h0
    by_cases h1 : i < (ne : Int)
    · have h1' : decide (i < (ne : Int)) = true := by simpa using h1
      have hr : isNd ne i = true := isNd_iff.2 ⟨h0, h1⟩
      go_enter Try.func87, Try.ntmps87
      go_wp2
      go_ret
      exact ⟨ret_bool (by simp [hr]), hb _⟩
    · have h1' : decide (i < (ne : Int)) = false := by simpa using h1
      have hr : isNd ne i = false := by simp [isNd, h1]
      have HR := Lib.hid hr
      clear hr
      go_enter Try.func87, Try.ntmps87
      go_wp2
      go_ret
      exact ⟨ret_bool (by simp [HR.out]), hb _⟩
  · have h0' : decide (0 ≤ i) = false := by simpa using h0
    have hr : isNd ne i = false := by simp [isNd, h0]
    have HR := Lib.hid hr
    clear hr
    go_enter Try.func87, Try.ntmps87
    go_wp2
    go_ret
    exact ⟨ret_bool (by simp [HR.out]), hb _⟩
end
end Go.Proofs.Ytfpncpjdmgfkbaa
