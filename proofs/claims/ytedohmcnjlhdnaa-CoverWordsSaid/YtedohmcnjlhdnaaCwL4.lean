/- What CoverWords asks, in plain Lean; the walk of all. -/
import Derived.Test.YtedohmcnjlhdnaaCwL2
import Derived.Test.YtedohmcnjlhdnaaR25g
namespace Go.Proofs.Ytedohmcnjlhdnaa
open Go.RowKit

section
variable {bits : Int → Nat → Bool} {n lp : Nat} {f : List Nd}
theorem rows_len (hN : isN f = true) : ∀ r ∈ rowsL bits n lp f (spans f) f.length, r.length = n := by
  obtain ⟨t, hok, hn, rfl⟩ := isN_tree hN
  intro r hr
  obtain ⟨k, hk, rfl⟩ := List.mem_iff_getElem.1 hr
  have hk' : k < t.flat.length := by rw [rowsL_len] at hk; exact hk
  obtain ⟨b', t', hok', _, hat', hkk⟩ := at_subN (f := t.flat) (s := spans t.flat) t 0 k hok hn (at_whole hok) (Nat.zero_le _) (by rw [t.flat_len] at hk'; omega)
  have h1 := at_rows (bits := bits) (n := n) (lp := lp) t' b' k hok' hat' hkk
  have h2 := rowsL_up (d := t.flat.length - (k + 1)) h1
  rw [show k + 1 + (t.flat.length - (k + 1)) = t.flat.length by omega] at h2
  rw [List.getElem?_eq_getElem hk] at h2
  injection h2 with h2
  rw [h2]; exact val_len t' hok'
/-- Does a cover fit at a place? -/
def fitB (S need ban : Nat) (hold : Nat → Bool) (nxt : List Nat) : Bool := decide (S &&& need = need) && decide (S &&& ban = 0) && nxt.all hold
theorem and_need {S need : Nat} : S &&& need = need ↔ ∀ p : Nat, need.testBit p = true → S.testBit p = true := by
  constructor
  · intro h p hp
    have := congrArg (fun x => x.testBit p) h
    simp only [Nat.testBit_and, hp, Bool.and_true] at this
    exact this
  · intro h
    apply Nat.eq_of_testBit_eq
    intro p
    rw [Nat.testBit_and]
    cases hp : need.testBit p
    · simp
    · rw [h p hp]; rfl
theorem and_ban {S ban : Nat} : S &&& ban = 0 ↔ ∀ p : Nat, ban.testBit p = true → S.testBit p = false := by
  constructor
  · intro h p hp
    have := congrArg (fun x => x.testBit p) h
    simp only [Nat.testBit_and, hp, Bool.and_true, Nat.zero_testBit] at this
    exact this
  · intro h
    apply Nat.eq_of_testBit_eq
    intro p
    rw [Nat.testBit_and, Nat.zero_testBit]
    cases hp : ban.testBit p
    · simp
    · rw [h p hp]; rfl
end
theorem bits_nat {sets : List Int} {k S p : Nat} (h : sets.getD k 0 = (S : Int)) (hS : S < 2 ^ 64) : bitsOf sets (p : Int) k = S.testBit p := by
  unfold bitsOf
  rw [h, Int.toNat_natCast, show ((S : Int) / 2 ^ p) = ((S / 2 ^ p : Nat) : Int) by simp]
  have hd : S / 2 ^ p < 2 ^ 64 := Nat.lt_of_le_of_lt (Nat.div_le_self _ _) hS
  have := and_u64' (x := S / 2 ^ p) (y := 1) hd (by omega)
  rw [show ((1 : Nat) : Int) = (1 : Int) from rfl] at this
  rw [this, Nat.and_one_is_mod]
  rw [Nat.testBit_eq_decide_div_mod_eq, Bool.eq_iff_iff, beq_iff_eq, decide_eq_true_eq]
  omega
theorem reads_iff {sets : List Int} {k S need ban : Nat} (h : sets.getD k 0 = (S : Int)) (hS : S < 2 ^ 64) : Reads (bitsOf sets) need ban k ↔ S &&& need = need ∧ S &&& ban = 0 := by
  unfold Reads
  rw [and_need, and_ban]
  simp only [bits_nat h hS]
theorem fits_iff {sets : List Int} {k S n lp : Nat} {f : List Nd} {c : Cov} (h : sets.getD k 0 = (S : Int)) (hS : S < 2 ^ 64) :
    FitsC (bitsOf sets) n lp f k c ↔ fitB S c.1 c.2.1 (fun x => holdsAt (bitsOf sets) n lp f x (nx lp n k)) (onL c.2.2.1) = true := by
  unfold FitsC fitB
  rw [reads_iff h hS, Bool.and_eq_true, Bool.and_eq_true, decide_eq_true_eq, decide_eq_true_eq, List.all_eq_true]
  simp only [onL_mem]
/-- Of some cover all is there just where all parts are. -/
theorem words_some {sets : List Int} {k S n lp : Nat} {f : List Nd} {ps : List Int} (hg : goodB f ps = true) (h : sets.getD k 0 = (S : Int)) (hS : S < 2 ^ 64) (hlp : lp < n) (hk : k < n) :
    (askedL f ps).any (fun c => fitB S c.1 c.2.1 (fun x => holdsAt (bitsOf sets) n lp f x (nx lp n k)) (onL c.2.2.1)) = (ps.map Int.toNat).all (fun x => holdsAt (bitsOf sets) n lp f x k) := by
  obtain ⟨h1, _, h2, _⟩ := good_parts hg
  have ha : askedL f ps = coversL f (ps.map Int.toNat) := by unfold askedL; rw [if_pos hg]
  rw [ha, Bool.eq_iff_iff, List.any_eq_true, List.all_eq_true]
  constructor
  · rintro ⟨c, hc, hf⟩ x hx
    exact (covers_sound h1 hlp hk h2 hc ((fits_iff h hS).2 hf)).2 x hx
  · intro hall
    obtain ⟨c, hc, hf⟩ := covers_complete (bits := bitsOf sets) (lp := lp) h1 hlp hk h2 hall
    exact ⟨c, hc, (fits_iff h hS).1 hf⟩
theorem words_now {sets : List Int} {k S n lp : Nat} {f : List Nd} {ps : List Int} (hg : goodB f ps = true) (h : sets.getD k 0 = (S : Int)) (hS : S < 2 ^ 64) (hlp : lp < n) (hk : k < n) {c : Cov} (hc : c ∈ askedL f ps)
    (hf : fitB S c.1 c.2.1 (fun x => holdsAt (bitsOf sets) n lp f x (nx lp n k)) (onL c.2.2.1) = true) : (onL c.2.2.2).all (fun x => holdsAt (bitsOf sets) n lp f x k) = true := by
  obtain ⟨h1, _, h2, _⟩ := good_parts hg
  have ha : askedL f ps = coversL f (ps.map Int.toNat) := by unfold askedL; rw [if_pos hg]
  rw [ha] at hc
  rw [List.all_eq_true]
  intro x hx
  exact (covers_sound h1 hlp hk h2 hc ((fits_iff h hS).2 hf)).1 x (onL_mem.1 hx)
set_option maxHeartbeats 4000000 in
set_option maxRecDepth 100000 in
theorem all28_any (w0 w : World) (v : Value) (R : List (List Bool)) (hG : Grid w0 w v R) (A' : Option Addr) (n' c' : Nat) (L : List Nat) (B : Nat) (hs : Sl w B 1 A' n' c' (icells (natI L))) (hB : B ≤ w.heap.size) (hn : n' = L.length) (k : Nat) (hL : ∀ x ∈ L, x < R.length) (hR : ∀ r ∈ R, k < r.length) (_hRl : R.length ≤ 1000) (hl : n' ≤ 100000) (_hk : k ≤ 1000) :
    Calls Try.prog 34 #[v, .slice A' n' c', .int .i64 (k : Int)] w (Tru w (L.all (fun x => (R.getD x []).getD k false))) := by
  subst hn
  have HS := Lib.hid hs
  have hc' := hs.cap
  obtain ⟨q, hq⟩ : ∃ q, L.all (fun x => (R.getD x []).getD k false) = q := ⟨_, rfl⟩
  rw [hq]
  have HQ := Lib.hid hq
  clear hs hq
  go_enter Try.func34, Try.ntmps34
  go_wp2_with fail
  go_loopw [11] (fun i wr => ∃ j : Nat, j ≤ L.length ∧ i = .int .i64 j ∧ Below w.heap.size w wr ∧ Hid ((L.take j).all (fun x => (R.getD x []).getD k false) = true)) (fun i _ => L.length - (intOf i).toNat)
  case atStart => exact ⟨0, by omega, rfl, Below.refl _ _, rfl⟩
  case round =>
    obtain ⟨j, hj, rfl, hbr, HA⟩ := hrel
    have hsr := hbr.size
    by_cases hlt : j < L.length
    · obtain ⟨bb, o, rfl, hbb, hc0⟩ := HS.out.rd.at_ (icells_at' (l := natI L) (k := j) (by simp [natI]; exact hlt))
      rw [show (natI L)[j]'(by simp [natI]; exact hlt) = ((L[j] : Nat) : Int) by simp [natI]] at hc0
      have hc1 := (hbr.cell (p := ⟨bb, o + j, none⟩) (show bb < w.heap.size by omega)).trans hc0
      have hx := hL L[j] (List.getElem_mem hlt)
      have hsn : (L.take (j + 1)).all (fun x => (R.getD x []).getD k false) = (R.getD L[j] []).getD k false := by rw [take_snoc L j hlt, List.all_append, HA.out]; simp
      have hno : (R.getD L[j] []).getD k false = false → q = false := fun h => by
        rw [← HQ.out, Bool.eq_false_iff]
        intro ha
        have := List.all_eq_true.1 ha L[j] (List.getElem_mem hlt)
        rw [h] at this; cases this
      generalize L[j] = x at *
      have hxr : R[x]? = some R[x] := List.getElem?_eq_getElem hx
      have hgd : R.getD x [] = R[x] := by simp [List.getD, hx]
      rw [hgd] at hsn hno
      have hkr := hR R[x] (List.getElem_mem hx)
      obtain ⟨b2, o2, A2, c2, n2, cap2, rfl, hn2, hcr, hsr2⟩ := (hG.below hbr).row hxr
      have hr2 : ∃ bt, R[x].getD k false = bt ∧ (bcells R[x])[k]? = some (.bool bt) := ⟨_, rfl, by simp [bcells, List.getD, hkr]⟩
      obtain ⟨bt, hbt, hbc⟩ := hr2
      obtain ⟨b3, o3, rfl, hb3, hc3⟩ := hsr2.rd.at_ hbc
      have hcp := hsr2.cap
      rw [hbt] at hsn hno
      have hxi : x < n2 := by omega
      generalize R[x].length = m at *
      have HSN := Lib.hid hsn
      have HNO := Lib.hid hno
      have wk : IntKind.i64.wrap ((j : Int) + 1) = j + 1 := by rw [IntKind.wrap_i64]; omega
      clear hsn hno hc0 hbt hbc hsr2 hxr hgd hn2
      cases bt
      · go_wp2_with fail
        go_ret
        have hqf := HNO.out
        simp only [true_implies] at hqf
        exact ⟨by rw [hqf]; rfl, hbr⟩
      · go_wp2_with fail
        go_roundw
        case rel => exact ⟨j + 1, by omega, by go_num, hbr, HSN.out⟩
        case measure => simp [intOf]; omega
    · have hkl : j = L.length := by omega
      subst hkl
      rw [List.take_of_length_le (Nat.le_refl _)] at HA
      go_wp2_with fail
      go_ret
      exact ⟨by rw [← HQ.out, HA.out]; rfl, hbr⟩
end Go.Proofs.Ytedohmcnjlhdnaa
