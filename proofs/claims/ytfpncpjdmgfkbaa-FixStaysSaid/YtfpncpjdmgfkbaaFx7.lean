/- The walks of fix: the closures of Fair; how many are left. -/
import Derived.Test.YtfpncpjdmgfkbaaFx6
import Derived.Test.YtfpncpjdmgfkbaaFixQ
namespace Go.Proofs.Ytfpncpjdmgfkbaa
open Go.RowKit

theorem fair2_any (A : Option Addr) (n c b : Nat) (s : List Bool) (i : Int) (w : World) (B : Nat) (hn : n = s.length) (hs : Sl w B 1 A n c (s.map .bool)) (hB : B ≤ w.heap.size) (hc : w.cell? ⟨b, 0, none⟩ = some (.slice A n c)) :
    Calls Try.prog 66 #[.int .i64 i, .pointer (some ⟨b, 0, none⟩)] w (Tru w (hasB s i)) := by
  have HH := Lib.hid (has_any A n c s i w B hn hs hB)
  clear hs hn
  go_enter Try.func66, Try.ntmps66
  go_wp2_with fail
  refine HH.out.mono ?_
  rintro e w2 ⟨rfl, hb2⟩
  clear HH
  go_wp2
  go_ret
  exact ⟨rfl, hb2⟩

theorem cntB_mono : ∀ {y z : List Bool}, y.length = z.length → SubB y z → cntB y ≤ cntB z ∧ (cntB y = cntB z → y = z)
  | [], [], _, _ => ⟨Nat.le_refl _, fun _ => rfl⟩
  | [], _ :: _, h, _ => by simp at h
  | _ :: _, [], h, _ => by simp at h
  | a :: y, b :: z, h, hs => by
    obtain ⟨i1, i2⟩ := cntB_mono (y := y) (z := z) (by simpa using h) (fun i hi => by simpa [List.getD] using hs (i + 1) (by simpa [List.getD] using hi))
    have h0 : a = true → b = true := fun ha => by simpa using hs 0 (by simpa using ha)
    simp only [cntB, List.countP_cons] at i1 i2 ⊢
    cases a <;> cases b
    · exact ⟨by simpa using i1, fun e => by rw [i2 (by simpa using e)]⟩
    · refine ⟨?_, fun e => ?_⟩
      · simp; omega
      · simp at e; omega
    · exact absurd (h0 rfl) (by decide)
    · exact ⟨by simpa using i1, fun e => by rw [i2 (by simpa using e)]⟩
theorem cntB_round {E : List (List Nd)} {asks : List (Nat → Bool)} {z : List Bool} (hz : z.length = E.length) (h : roundZ E asks z ≠ z) : cntB (roundZ E asks z) < cntB z := by
  obtain ⟨h1, h2⟩ := cntB_mono (roundZ_len E asks z) (roundZ_sub asks hz)
  rcases Nat.lt_or_eq_of_le h1 with h3 | h3
  · exact h3
  · exact absurd (h2 h3) h
end Go.Proofs.Ytfpncpjdmgfkbaa
