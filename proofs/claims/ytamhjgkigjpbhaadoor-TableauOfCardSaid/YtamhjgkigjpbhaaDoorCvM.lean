/- The map of what covers say (layer 28): keys of a struct's type. -/
import Derived.Test.YtamhjgkigjpbhaaDoorCv6
import Derived.DeepKeys5
import Derived.Maps.Own
import Derived.Maps.OwnOps
import Derived.Maps.Views
namespace Go.Proofs.YtamhjgkigjpbhaaDoor
open Go.RowKit Go.Maps

theorem laidOutC : laidOutB Tryd.prog = true := by kernel_rfl
theorem saidKeyed : Keyed Tryd.prog 106 :=
  Keyed.of_law (deep_law_gate laidOutC (of_decide_eq_true (by kernel_rfl)) (of_decide_eq_true (by kernel_rfl)) (by kernel_rfl) (by kernel_rfl))
theorem said_cells : Tryd.prog.cellsOf 106 = 4 := by kernel_rfl
theorem said_types : Tryd.prog.types.size + 1 = (Tryd.prog.types.size - 1) + 2 := by
  have : 1 ≤ Tryd.prog.types.size := of_decide_eq_true (by kernel_rfl)
  omega
theorem said_keyType : Tryd.prog.keyType 106 = true := by kernel_rfl
theorem u64_cells : Tryd.prog.cellsOf 41 = 1 := by kernel_rfl
theorem str_cells : Tryd.prog.cellsOf 9 = 1 := by kernel_rfl
/-- What a cover says, as a key. -/
def keyV (c : Cov) : Value := .agg #[.int .u64 (c.1 : Int), .int .u64 (c.2.1 : Int), .string (strB c.2.2.1), .string (strB c.2.2.2)]
def CovSmall (c : Cov) : Prop := c.1 < 256 ∧ c.2.1 < 256 ∧ c.2.2.1.length ≤ 1000000 ∧ c.2.2.2.length ≤ 1000000
theorem keyOf_said {c : Cov} (h : CovSmall c) : ∃ kl, keyOf Tryd.prog 106 (keyV c) = some kl := by
  obtain ⟨h1, h2, h3, h4⟩ := h
  have w1 : (Lit.int .u64 (c.1 : Int)).wf = true := by rw [Lit.wf, show IntKind.u64.min = 0 from rfl, show IntKind.u64.max = 18446744073709551615 from rfl]; simp; omega
  have w2 : (Lit.int .u64 (c.2.1 : Int)).wf = true := by rw [Lit.wf, show IntKind.u64.min = 0 from rfl, show IntKind.u64.max = 18446744073709551615 from rfl]; simp; omega
  have s1 : (strB c.2.2.1).size ≤ maxLen := by rw [strB, strOfNums_size]; simp; unfold maxLen; omega
  have s2 : (strB c.2.2.2).size ≤ maxLen := by rw [strB, strOfNums_size]; simp; unfold maxLen; omega
  unfold keyOf keyV
  rw [Tryd.underlying106]
  simp only [said_keyType, Value.formed, Tryd.underlying106, said_cells]
  rw [said_types]
  simp only [Program.keyLits, Tryd.underlying106, said_cells]
  simp [w1, w2, s1, s2, Value.cells, u64_cells, str_cells]
theorem keyV_inj {c d : Cov} (h : keyV c = keyV d) : c = d := by
  obtain ⟨a, b, x, y⟩ := c
  obtain ⟨a', b', x', y'⟩ := d
  simp only [keyV, Value.agg.injEq, Array.mk.injEq, List.cons.injEq, Value.int.injEq, Value.string.injEq, true_and, and_true] at h
  obtain ⟨h1, h2, h3, h4⟩ := h
  rw [strB_inj h3, strB_inj h4, show a = a' by omega, show b = b' by omega]
/-- The map of what was told: a block that says of each cover if it is in the list. -/
def TMap (w : World) (mb : Nat) (T : List Cov) : Prop :=
  ∃ D : DataW Unit, w.ownsMap Tryd.prog 106 (plainElem Tryd.prog 4) mb T.length D ∧ IsMap D ∧
    ∀ (c : Cov) (kl : Lit), CovSmall c → keyOf Tryd.prog 106 (keyV c) = some kl → D.atKey kl (.lit (.bool false)) = .lit (.bool (decide (c ∈ T)))
theorem TMap.lt {w : World} {mb : Nat} {T : List Cov} (h : TMap w mb T) : mb < w.heap.size := by obtain ⟨D, hD, _⟩ := h; exact hD.lt
theorem TMap.keep {S : Nat → Prop} {w w' : World} {mb : Nat} {T : List Cov} (h : TMap w mb T) (ht : Tch S w w') (hS : ¬ S mb) : TMap w' mb T := by
  obtain ⟨D, ⟨es, clock, hb, F, hs, hD⟩, h2, h3⟩ := h
  exact ⟨D, ⟨es, clock, ht.blk hb hS, F, hs, hD⟩, h2, h3⟩
theorem TMap.made (w : World) : TMap (w.alloc (.map #[] 0)) w.heap.size [] :=
  ⟨.map [], World.ownsMap_made w _ _ _, isMap_empty, fun _c _kl _ _ => rfl⟩
theorem plainElem_bool_inv {P : Program} {e : TypeId} (he : P.underlying e = some .bool) {v : Value} {x : Bool} {ps : List MemPlace} (h : plainElem (H := Unit) P e v = some (.lit (.bool x), ps)) : v = .bool x := by
  unfold plainElem at h
  rw [he] at h
  cases v <;> simp at h
  rw [h.1]
theorem TMap.lookup {w : World} {mb : Nat} {T : List Cov} (h : TMap w mb T) {c : Cov} (hc : CovSmall c) :
    (Instr.lookup 97 (.map (some mb)) (keyV c) false).run Tryd.prog w = .ok (.bool (decide (c ∈ T))) w := by
  obtain ⟨D, h1, _, h3⟩ := h
  obtain ⟨kl, hk⟩ := keyOf_said hc
  have hz : (zeroValue 4).run Tryd.prog w = .ok (.bool false) w := by kernel_rfl
  obtain ⟨v, ps, hr, hv⟩ := h1.lookup saidKeyed Tryd.underlying97 hz (plainElem_bool Tryd.underlying4 false) hk
  rw [h3 c kl hc hk] at hv
  have e : v = .bool (decide (c ∈ T)) := plainElem_bool_inv Tryd.underlying4 hv
  rw [← e]; exact hr
theorem TMap.update {w : World} {mb : Nat} {T : List Cov} (h : TMap w mb T) {c : Cov} (hc : CovSmall c) (hl : T.length ≤ 1000000) :
    ∃ w', (Instr.mapUpdate 97 (.map (some mb)) (keyV c) (.bool true)).run Tryd.prog w = .ok () w' ∧ TMap w' mb (T ++ [c]) ∧ w.grownBy w' (some mb) := by
  obtain ⟨D, h1, h2, h3⟩ := h
  obtain ⟨kl, hk⟩ := keyOf_said hc
  obtain ⟨w', hr, ho, hg⟩ := h1.update saidKeyed Tryd.underlying97 (by unfold maxLen; omega) hk (plainElem_bool Tryd.underlying4 true)
  refine ⟨w', hr, ⟨_, by rw [List.length_append]; exact ho, h2.put _ _, fun d kl' hd hk' => ?_⟩, hg⟩
  by_cases e : kl' = kl
  · subst e
    have := keyV_inj (saidKeyed.inj hk' hk)
    subst this
    rw [atKey_put_same h2 (saidKeyed.key hk)]
    simp
  · have hne : d ≠ c := fun e' => by subst e'; rw [hk] at hk'; cases hk'; exact e rfl
    rw [atKey_put_other e, h3 d kl' hd hk']
    simp [hne]
end Go.Proofs.YtamhjgkigjpbhaaDoor
