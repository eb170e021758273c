/- Sets as words and as lists of bools: of two of one length. Plain. -/
import Derived.Test.YtikhlcdgibnolaaDoorTzQ
import Derived.Test.YtikhlcdgibnolaaDoorTr6
namespace Go.Proofs.YtikhlcdgibnolaaDoor

theorem zip_bit {f : Nat → Nat → Nat} {g : Bool → Bool → Bool} (hf : ∀ a b, a < 2 ^ 64 → b < 2 ^ 64 → ∀ i, (f a b).testBit i = g (a.testBit i) (b.testBit i)) (hg : g false false = false) {W V : List Nat} (h : W.length = V.length) (hW : ∀ x ∈ W, x < 2 ^ 64) (hV : ∀ x ∈ V, x < 2 ^ 64) (i : Nat) :
    bitOf (List.zipWith f W V) i = g (bitOf W i) (bitOf V i) := by
  unfold bitOf
  by_cases hj : i / 64 < W.length
  · have hj2 : i / 64 < V.length := by omega
    have e : (List.zipWith f W V).getD (i / 64) 0 = f (W.getD (i / 64) 0) (V.getD (i / 64) 0) := by
      rw [List.getD_eq_getElem?_getD, List.getElem?_eq_getElem (by simp; omega), Option.getD_some, List.getElem_zipWith]
      simp [List.getD, hj, hj2]
    rw [e, hf]
    · simp only [List.getD, List.getElem?_eq_getElem hj, Option.getD_some]; exact hW _ (List.getElem_mem hj)
    · simp only [List.getD, List.getElem?_eq_getElem hj2, Option.getD_some]; exact hV _ (List.getElem_mem hj2)
  · have e1 : (List.zipWith f W V).getD (i / 64) 0 = 0 := by
      rw [List.getD_eq_getElem?_getD, List.getElem?_eq_none (by simp; omega)]; rfl
    have e2 : W.getD (i / 64) 0 = 0 := by rw [List.getD_eq_getElem?_getD, List.getElem?_eq_none (by omega)]; rfl
    have e3 : V.getD (i / 64) 0 = 0 := by rw [List.getD_eq_getElem?_getD, List.getElem?_eq_none (by omega)]; rfl
    rw [e1, e2, e3]; simp [hg]
theorem SameW.zip {n : Nat} {f : Nat → Nat → Nat} {g : Bool → Bool → Bool} {how : Nat} (hf : ∀ a b, a < 2 ^ 64 → b < 2 ^ 64 → ∀ i, (f a b).testBit i = g (a.testBit i) (b.testBit i)) (hg : g false false = false) (hh : ∀ a b i, bothF how a b i = g (a.getD i false) (b.getD i false))
    {W V : List Nat} {x y : List Bool} (h : SameW n W x) (k : SameW n V y) (hW : ∀ x ∈ W, x < 2 ^ 64) (hV : ∀ x ∈ V, x < 2 ^ 64) : SameW n (List.zipWith f W V) (bothL n how x y) := by
  have hl : W.length = V.length := by rw [h.wl, k.wl]
  refine ⟨bothL_len _ _ _ _, by simp [h.wl, k.wl], fun i => ?_⟩
  rw [zip_bit hf hg hl hW hV, h.bit, k.bit, bothL, List.getD_eq_getElem?_getD (l := (List.range n).map _), List.getElem?_map]
  by_cases hi : i < n
  · rw [List.getElem?_range hi]; simp [hh]
  · rw [List.getElem?_eq_none (by simp; omega)]
    have e1 : x.getD i false = false := by rw [List.getD_eq_getElem?_getD, List.getElem?_eq_none (by rw [h.len]; omega)]; rfl
    have e2 : y.getD i false = false := by rw [List.getD_eq_getElem?_getD, List.getElem?_eq_none (by rw [k.len]; omega)]; rfl
    rw [e1, e2]; simp [hg]
theorem SameW.and {n : Nat} {W V : List Nat} {x y : List Bool} (h : SameW n W x) (k : SameW n V y) (hW : ∀ x ∈ W, x < 2 ^ 64) (hV : ∀ x ∈ V, x < 2 ^ 64) : SameW n (List.zipWith (· &&& ·) W V) (bothL n 0 x y) :=
  SameW.zip (f := (· &&& ·)) (g := fun a b => a && b) (fun a b _ _ i => Nat.testBit_and a b i) rfl (fun _ _ _ => rfl) h k hW hV
theorem SameW.or {n : Nat} {W V : List Nat} {x y : List Bool} (h : SameW n W x) (k : SameW n V y) (hW : ∀ x ∈ W, x < 2 ^ 64) (hV : ∀ x ∈ V, x < 2 ^ 64) : SameW n (List.zipWith (· ||| ·) W V) (bothL n 1 x y) :=
  SameW.zip (f := (· ||| ·)) (g := fun a b => a || b) (fun a b _ _ i => Nat.testBit_or a b i) rfl (fun _ _ _ => rfl) h k hW hV
theorem SameW.minus {n : Nat} {W V : List Nat} {x y : List Bool} (h : SameW n W x) (k : SameW n V y) (hW : ∀ x ∈ W, x < 2 ^ 64) (hV : ∀ x ∈ V, x < 2 ^ 64) : SameW n (List.zipWith bare64 W V) (bothL n 2 x y) :=
  SameW.zip (f := bare64) (g := fun a b => a && !b) (fun _ _ ha hb i => bare64_bit ha hb i) rfl (fun _ _ _ => rfl) h k hW hV
theorem SameW.inj {n : Nat} {W V : List Nat} {x y : List Bool} (h : SameW n W x) (k : SameW n V y) (hW : ∀ x ∈ W, x < 2 ^ 64) (hV : ∀ x ∈ V, x < 2 ^ 64) : decide (x = y) = decide (W = V) := by
  rw [decide_eq_decide]
  constructor
  · intro e
    subst e
    have hl : W.length = V.length := by rw [h.wl, k.wl]
    refine List.ext_getElem hl (fun j h1 h2 => Nat.eq_of_testBit_eq (fun i => ?_))
    by_cases hi : i < 64
    · have hb : bitOf W (j * 64 + i) = bitOf V (j * 64 + i) := by rw [h.bit, k.bit]
      unfold bitOf at hb
      rw [show (j * 64 + i) / 64 = j by omega, show (j * 64 + i) % 64 = i by omega] at hb
      simpa [List.getD, h1, h2] using hb
    · have a := hW _ (List.getElem_mem h1)
      have b := hV _ (List.getElem_mem h2)
      have hp : 2 ^ 64 ≤ 2 ^ i := Nat.pow_le_pow_right (by omega) (by omega)
      rw [Nat.testBit_lt_two_pow (by omega), Nat.testBit_lt_two_pow (by omega)]
  · intro e
    subst e
    refine List.ext_getElem (by rw [h.len, k.len]) (fun i h1 h2 => ?_)
    have := (h.bit i).symm.trans (k.bit i)
    simpa [List.getD, h1, h2] using this
end Go.Proofs.YtikhlcdgibnolaaDoor
