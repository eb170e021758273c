/- Texts of one kind, in one file. -/
import Derived.Test.YtikhlcdgibnolaaDoorMa

/- (XPopP) How many digits of a number are 1: byte by byte, as the library adds them up. Plain. -/
namespace Go.Proofs.YtikhlcdgibnolaaDoor

def pc (x : Nat) : Nat := (List.range 64).countP x.testBit
def pcb (r : Nat) : Nat := (List.range 8).countP r.testBit
def pcn (n x : Nat) : Nat := (List.range (8 * n)).countP x.testBit
theorem pcb_mod (x : Nat) : (List.range 8).countP x.testBit = pcb (x % 256) := by
  unfold pcb
  apply List.countP_congr
  intro i hi
  rw [show (256 : Nat) = 2 ^ 8 by decide, Nat.testBit_mod_two_pow]
  simp [List.mem_range.1 hi]
theorem pcn_succ (n x : Nat) : pcn (n + 1) x = pcn n (x / 256) + pcb (x % 256) := by
  rw [pcn, show 8 * (n + 1) = 8 + 8 * n by omega, List.range_add, List.countP_append, pcb_mod, List.countP_map, Nat.add_comm]
  congr 1
  unfold pcn
  apply List.countP_congr
  intro i _
  simp only [Function.comp]
  rw [show (256 : Nat) = 2 ^ 8 by decide, Nat.testBit_div_two_pow, Nat.add_comm]

def rep (c : Nat) : Nat → Nat
  | 0 => 0
  | n + 1 => rep c n * 256 + c
theorem and_cat {q r m c : Nat} (hr : r < 256) (hc : c < 256) : (q * 256 + r) &&& (m * 256 + c) = (q &&& m) * 256 + (r &&& c) := by
  have h1 : ((q * 256 + r) &&& (m * 256 + c)) % 2 ^ 8 = r &&& c := by
    rw [Nat.and_mod_two_pow]; congr 1 <;> omega
  have h2 : ((q * 256 + r) &&& (m * 256 + c)) / 2 ^ 8 = q &&& m := by
    rw [Nat.and_div_two_pow]; congr 1 <;> omega
  have := Nat.div_add_mod ((q * 256 + r) &&& (m * 256 + c)) (2 ^ 8)
  rw [h1, h2] at this
  omega
def s1 (n x : Nat) : Nat := ((x / 2) &&& rep 85 n) + (x &&& rep 85 n)
def s2 (n x : Nat) : Nat := ((x / 4) &&& rep 51 n) + (x &&& rep 51 n)
def s3 (n x : Nat) : Nat := (x / 16 + x) &&& rep 15 n
def b1 (r : Nat) : Nat := ((r / 2) &&& 85) + (r &&& 85)
def b2 (r : Nat) : Nat := ((r / 4) &&& 51) + (r &&& 51)
set_option maxRecDepth 100000 in
theorem byte1 : ∀ r, r < 256 → (b1 r < 256 ∧ b2 (b1 r) < 256 ∧ b2 (b1 r) % 16 ≤ 4 ∧ pcb r ≤ 8) ∧ ∀ b, b < 2 → (b * 128 + r / 2) &&& 85 = (r / 2) &&& 85 := by decide
set_option maxRecDepth 100000 in
theorem byte2 : ∀ r, r < 256 → ∀ b, b < 4 → (b * 64 + r / 4) &&& 51 = (r / 4) &&& 51 := by decide
set_option maxRecDepth 100000 in
theorem byte3 : ∀ r, r < 256 → ∀ t, t < 5 → (t * 16 + b2 (b1 r) / 16 + b2 (b1 r)) < 256 ∧ (t * 16 + b2 (b1 r) / 16 + b2 (b1 r)) &&& 15 = pcb r := by decide
theorem s1_cat {n q r : Nat} (hr : r < 256) : s1 (n + 1) (q * 256 + r) = s1 n q * 256 + b1 r := by
  have e : (q * 256 + r) / 2 = (q / 2) * 256 + ((q % 2) * 128 + r / 2) := by omega
  rw [s1, rep, e, and_cat (by omega) (by omega), and_cat hr (by omega), (byte1 r hr).2 _ (Nat.mod_lt _ (by omega)), s1, b1]
  omega
theorem s2_cat {n q r : Nat} (hr : r < 256) : s2 (n + 1) (q * 256 + r) = s2 n q * 256 + b2 r := by
  have e : (q * 256 + r) / 4 = (q / 4) * 256 + ((q % 4) * 64 + r / 4) := by omega
  rw [s2, rep, e, and_cat (by omega) (by omega), and_cat hr (by omega), byte2 r hr _ (Nat.mod_lt _ (by omega)), s2, b2]
  omega
theorem s12_cat (n x : Nat) : s2 (n + 1) (s1 (n + 1) x) = s2 n (s1 n (x / 256)) * 256 + b2 (b1 (x % 256)) := by
  have hr := Nat.mod_lt x (show 0 < 256 by omega)
  have e : x = x / 256 * 256 + x % 256 := by omega
  conv => lhs; rw [e]
  rw [s1_cat hr, s2_cat (byte1 _ hr).1.1]
theorem s12_low : ∀ n x, s2 n (s1 n x) % 16 ≤ 4
  | 0, x => by simp [s2, rep]
  | n + 1, x => by
    rw [s12_cat]
    have := (byte1 _ (Nat.mod_lt x (show 0 < 256 by omega))).1.2.2.1
    omega
theorem s1_lt : ∀ n x, x < 256 ^ n → s1 n x < 256 ^ n
  | 0, x, h => by simp [s1, rep]
  | n + 1, x, h => by
    have hr := Nat.mod_lt x (show 0 < 256 by omega)
    have e : x = x / 256 * 256 + x % 256 := by omega
    rw [e, s1_cat hr]
    have h1 := (byte1 _ hr).1.1
    rw [Nat.pow_succ] at h ⊢
    have := s1_lt n (x / 256) (by omega)
    omega
theorem s2_lt : ∀ n x, x < 256 ^ n → s2 n (s1 n x) < 256 ^ n
  | 0, x, h => by simp [s2, rep]
  | n + 1, x, h => by
    have hr := Nat.mod_lt x (show 0 < 256 by omega)
    rw [s12_cat]
    have h1 := (byte1 _ hr).1.2.1
    rw [Nat.pow_succ] at h ⊢
    have := s2_lt n (x / 256) (by omega)
    omega
/-- The bytes of what is left are the bytes' sums. -/
def sums : Nat → Nat → Nat
  | 0, _ => 0
  | n + 1, x => sums n (x / 256) * 256 + pcb (x % 256)
theorem s3_sums : ∀ n x, x < 256 ^ n → s3 n (s2 n (s1 n x)) = sums n x ∧ s2 n (s1 n x) / 16 + s2 n (s1 n x) < 256 ^ n
  | 0, x, h => by simp [s3, s2, rep, sums]
  | n + 1, x, h => by
    have hr := Nat.mod_lt x (show 0 < 256 by omega)
    rw [Nat.pow_succ] at h ⊢
    obtain ⟨i1, i2⟩ := s3_sums n (x / 256) (by omega)
    have hl := s12_low n (x / 256)
    have h3 := byte3 _ hr (s2 n (s1 n (x / 256)) % 16) (by omega)
    rw [s12_cat, s3, rep, sums]
    rw [s3] at i1
    generalize s2 n (s1 n (x / 256)) = q at *
    generalize b2 (b1 (x % 256)) = y at *
    have e : (q * 256 + y) / 16 + (q * 256 + y) = (q / 16 + q) * 256 + (q % 16 * 16 + y / 16 + y) := by omega
    rw [e, and_cat h3.1 (by omega), h3.2, i1]
    refine ⟨rfl, ?_⟩
    have := h3.1
    omega
theorem pc_sums (x : Nat) : ∃ p0 p1 p2 p3 p4 p5 p6 p7 : Nat, (p0 ≤ 8 ∧ p1 ≤ 8 ∧ p2 ≤ 8 ∧ p3 ≤ 8 ∧ p4 ≤ 8 ∧ p5 ≤ 8 ∧ p6 ≤ 8 ∧ p7 ≤ 8) ∧
    sums 8 x = ((((((((0 * 256 + p7) * 256 + p6) * 256 + p5) * 256 + p4) * 256 + p3) * 256 + p2) * 256 + p1) * 256 + p0) ∧ pc x = p0 + p1 + p2 + p3 + p4 + p5 + p6 + p7 := by
  have hb : ∀ y, pcb (y % 256) ≤ 8 := fun y => (byte1 _ (Nat.mod_lt y (show 0 < 256 by omega))).1.2.2.2
  refine ⟨_, _, _, _, _, _, _, _, ⟨hb x, hb (x / 256), hb (x / 256 / 256), hb (x / 256 / 256 / 256), hb (x / 256 / 256 / 256 / 256), hb (x / 256 / 256 / 256 / 256 / 256), hb (x / 256 / 256 / 256 / 256 / 256 / 256), hb (x / 256 / 256 / 256 / 256 / 256 / 256 / 256)⟩, rfl, ?_⟩
  show pcn 8 x = _
  rw [pcn_succ, pcn_succ, pcn_succ, pcn_succ, pcn_succ, pcn_succ, pcn_succ, pcn_succ]
  have h0 : ∀ y, pcn 0 y = 0 := fun y => rfl
  rw [h0]
  omega
/-- The last three sums. -/
theorem pc_fold {x z : Nat} (hz : z = sums 8 x) : (z + z / 256 + (z + z / 256) / 65536 + (z + z / 256 + (z + z / 256) / 65536) / 4294967296) % 128 = pc x ∧ z + z / 256 < 2 ^ 64 ∧ z + z / 256 + (z + z / 256) / 65536 < 2 ^ 64 ∧
    z + z / 256 + (z + z / 256) / 65536 + (z + z / 256 + (z + z / 256) / 65536) / 4294967296 < 2 ^ 63 := by
  obtain ⟨p0, p1, p2, p3, p4, p5, p6, p7, hb, hs, hp⟩ := pc_sums x
  rw [hp]
  rw [hs] at hz
  clear hs hp
  have e1 : z / 256 = (((((((p7) * 256 + p6) * 256 + p5) * 256 + p4) * 256 + p3) * 256 + p2) * 256 + p1) := by omega
  obtain ⟨z1, hz1⟩ : ∃ z1, z1 = z + z / 256 := ⟨_, rfl⟩
  have e2 : z1 / 65536 = (((((p7 * 256 + (p6 + p7)) * 256 + (p5 + p6)) * 256 + (p4 + p5)) * 256 + (p3 + p4)) * 256 + (p2 + p3)) := by omega
  obtain ⟨z2, hz2⟩ : ∃ z2, z2 = z1 + z1 / 65536 := ⟨_, rfl⟩
  rw [← hz1, ← hz2]
  have hb1 : z1 < 2 ^ 64 := by omega
  have e3 : z2 = ((((((((p7) * 256 + (p6 + p7)) * 256 + (p5 + p6 + p7)) * 256 + (p4 + p5 + (p6 + p7))) * 256 + (p3 + p4 + (p5 + p6))) * 256 + (p2 + p3 + (p4 + p5))) * 256 + (p1 + p2 + (p3 + p4))) * 256 + (p0 + p1 + (p2 + p3))) := by omega
  clear hz2 e2 hz1 e1 hz
  have e4 : z2 / 4294967296 = (((((p7) * 256 + (p6 + p7)) * 256 + (p5 + p6 + p7)) * 256 + (p4 + p5 + (p6 + p7)))) := by omega
  refine ⟨?_, ?_, by omega, by omega⟩
  · rw [e4, e3]; omega
  · exact hb1
end Go.Proofs.YtikhlcdgibnolaaDoor

/- (XBitC) Sets as words: what is in both, in one or in both, in one alone, and how many. Plain. -/
namespace Go.Proofs.YtikhlcdgibnolaaDoor

theorem countP_both {α : Type} (p q : α → Bool) : ∀ l : List α, l.countP (fun x => p x || q x) + l.countP (fun x => p x && q x) = l.countP p + l.countP q
  | [] => rfl
  | y :: l => by
    have ih := countP_both p q l
    simp only [List.countP_cons]
    cases p y <;> cases q y <;> simp <;> omega
theorem pc_both (x y : Nat) : pc (x ||| y) + pc (x &&& y) = pc x + pc y := by
  have h := countP_both x.testBit y.testBit (List.range 64)
  show (List.range 64).countP _ + (List.range 64).countP _ = (List.range 64).countP _ + (List.range 64).countP _
  rw [← h]
  congr 1
  · exact List.countP_congr (fun i _ => by rw [Nat.testBit_or])
  · exact List.countP_congr (fun i _ => by rw [Nat.testBit_and])
/-- All of x but y's digits. -/
def bare64 (x y : Nat) : Nat := x &&& (2 ^ 64 - (y + 1))
theorem bare64_bit {x y : Nat} (hx : x < 2 ^ 64) (hy : y < 2 ^ 64) (i : Nat) : (bare64 x y).testBit i = (x.testBit i && !y.testBit i) := by
  rw [bare64, Nat.testBit_and, Nat.testBit_two_pow_sub_succ hy]
  by_cases h : i < 64
  · simp [h]
  · rw [Nat.testBit_lt_two_pow (Nat.lt_of_lt_of_le hx (Nat.pow_le_pow_right (by omega) (by omega)))]; rfl
theorem bare64_or {x y : Nat} (hx : x < 2 ^ 64) (hy : y < 2 ^ 64) : (x &&& y) ||| bare64 x y = x := by
  apply Nat.eq_of_testBit_eq
  intro i
  rw [Nat.testBit_or, Nat.testBit_and, bare64_bit hx hy]
  cases x.testBit i <;> cases y.testBit i <;> rfl
def cntW (W : List Nat) : Nat := (W.map pc).sum
def andW (W V : List Nat) : List Nat := List.zipWith (· &&& ·) W V
def orW (W V : List Nat) : List Nat := List.zipWith (· ||| ·) W V
def minusW (W V : List Nat) : List Nat := List.zipWith bare64 W V
theorem cntW_both : ∀ (W V : List Nat), W.length = V.length → cntW (orW W V) + cntW (andW W V) = cntW W + cntW V
  | [], [], _ => rfl
  | x :: W, y :: V, h => by
    have ih := cntW_both W V (by simpa using h)
    have hb := pc_both x y
    simp only [cntW, orW, andW, List.zipWith_cons_cons, List.map_cons, List.sum_cons] at ih ⊢
    omega
theorem orW_back : ∀ (W V : List Nat), W.length = V.length → (∀ x ∈ W, x < 2 ^ 64) → (∀ y ∈ V, y < 2 ^ 64) → orW (andW W V) (minusW W V) = W
  | [], [], _, _, _ => rfl
  | x :: W, y :: V, h, hx, hy => by
    have ih := orW_back W V (by simpa using h) (fun z hz => hx z (List.mem_cons_of_mem _ hz)) (fun z hz => hy z (List.mem_cons_of_mem _ hz))
    simp only [orW, andW, minusW, List.zipWith_cons_cons] at ih ⊢
    rw [ih, bare64_or (hx x List.mem_cons_self) (hy y List.mem_cons_self)]
theorem zip_get (g : Nat → Nat → Nat) {W V : List Nat} (h : W.length = V.length) {k : Nat} (hk : k < W.length) : (List.zipWith g W V).getD k 0 = g (W.getD k 0) (V.getD k 0) := by
  simp only [List.getD_eq_getElem?_getD, List.getElem?_zipWith, List.getElem?_eq_getElem hk, List.getElem?_eq_getElem (show k < V.length by omega)]
  rfl
theorem zip_lt (g : Nat → Nat → Nat) (hg : ∀ x y, x < 2 ^ 64 → y < 2 ^ 64 → g x y < 2 ^ 64) : ∀ (W V : List Nat), (∀ x ∈ W, x < 2 ^ 64) → (∀ y ∈ V, y < 2 ^ 64) → ∀ z ∈ List.zipWith g W V, z < 2 ^ 64
  | [], _, _, _, z, hz => by simp at hz
  | _ :: _, [], _, _, z, hz => by simp at hz
  | x :: W, y :: V, hx, hy, z, hz => by
    rw [List.zipWith_cons_cons] at hz
    rcases List.mem_cons.1 hz with rfl | hz
    · exact hg _ _ (hx x List.mem_cons_self) (hy y List.mem_cons_self)
    · exact zip_lt g hg W V (fun z hz => hx z (List.mem_cons_of_mem _ hz)) (fun z hz => hy z (List.mem_cons_of_mem _ hz)) z hz
theorem bare64_lt {x : Nat} (y : Nat) (hx : x < 2 ^ 64) : bare64 x y < 2 ^ 64 := Nat.lt_of_le_of_lt Nat.and_le_left hx
/-- What a loop over the words has done up to word k. -/
def zipK (g : Nat → Nat → Nat) (W V : List Nat) (k : Nat) : List Nat := (List.zipWith g W V).take k ++ W.drop k
theorem zipK_zero (g : Nat → Nat → Nat) (W V : List Nat) : zipK g W V 0 = W := by simp [zipK]
theorem zipK_all (g : Nat → Nat → Nat) {W V : List Nat} (h : W.length = V.length) : zipK g W V W.length = List.zipWith g W V := by
  rw [zipK, List.take_of_length_le (by simp; omega), List.drop_eq_nil_of_le (Nat.le_refl _), List.append_nil]
theorem zipK_len (g : Nat → Nat → Nat) {W V : List Nat} (h : W.length = V.length) {k : Nat} (hk : k ≤ W.length) : (zipK g W V k).length = W.length := by
  simp [zipK]; omega
theorem zipK_get (g : Nat → Nat → Nat) {W V : List Nat} (h : W.length = V.length) {k : Nat} (hk : k < W.length) : (zipK g W V k).getD k 0 = W.getD k 0 := by
  have hl : ((List.zipWith g W V).take k).length = k := by simp; omega
  rw [zipK, List.getD_eq_getElem?_getD, List.getElem?_append_right (by omega), hl, Nat.sub_self, List.getElem?_drop, Nat.add_zero, ← List.getD_eq_getElem?_getD]
theorem zipK_step (g : Nat → Nat → Nat) {W V : List Nat} (h : W.length = V.length) {k : Nat} (hk : k < W.length) : (zipK g W V k).set k (g (W.getD k 0) (V.getD k 0)) = zipK g W V (k + 1) := by
  have hl : ((List.zipWith g W V).take k).length = k := by simp; omega
  have hz : k < (List.zipWith g W V).length := by simp; omega
  rw [zipK, zipK, List.set_append_right _ _ (by omega), hl, Nat.sub_self, List.take_succ_eq_append_getElem hz, List.append_assoc, List.drop_eq_getElem_cons hk]
  have e : (List.zipWith g W V)[k] = g (W.getD k 0) (V.getD k 0) := by
    rw [← zip_get g h hk, List.getD_eq_getElem?_getD, List.getElem?_eq_getElem hz]; rfl
  rw [e]; rfl
end Go.Proofs.YtikhlcdgibnolaaDoor
