/- Texts that stand one behind the other, in one file. -/
import Derived.Test.YtiebpncpdbnelaaDoorAu12
namespace Go.Proofs.YtiebpncpdbnelaaDoor
open Go.RowKit Go.Shelf
structure PlayOw (w : World) (base : Nat) (ai : Option Addr) (ni ci : Nat) (ae : Option Addr) (ne ce : Nat) (al : Option Addr) (nl cl : Nat) (ac : Option Addr) (nc cc : Nat) (I : List Int) (E : List (List Nd)) (L ins : List Nat) (vs : List Value) : Prop where
 i : w.ownsRow base 3 1 (.slice ai ni ci) ni (icells I)
 e : Own2 w base 65 63 2 (.slice ae ne ce) (E.map ncells) vs
 l : w.ownsRow base 41 1 (.slice al nl cl) nl (ucellsN L)
 n : w.ownsRow base 41 1 (.slice ac nc cc) nc (ucellsN ins)
section
variable {w w' : World} {base ni ci ne ce nl cl nc cc : Nat} {ai ae al ac : Option Addr} {I : List Int} {E : List (List Nd)} {L ins : List Nat} {vs : List Value} {M : Nat → Prop}
theorem PlayOw.rd (h : PlayOw w base ai ni ci ae ne ce al nl cl ac nc cc I E L ins vs) : PlayRd w w.1.size ai ni ci ae ne ce al nl cl ac nc cc I E L ins := by
 obtain ⟨A1, c1, e1, hi⟩ := own_sl h.i
 cases e1
 obtain ⟨A2, c2, e2, he⟩ := h.e.sl2
 cases e2
 obtain ⟨A3, c3, e3, hl⟩ := own_sl h.l
 cases e3
 obtain ⟨A4, c4, e4, hc⟩ := own_sl h.n
 cases e4
 refine ⟨⟨hi, he, ?_⟩, hc⟩
 have : (L.map (fun (x : Nat) => (x : Int))).map (Value.int .u64) = ucellsN L := by simp [ucellsN]
 rw [this]
 exact hl
end
end Go.Proofs.YtiebpncpdbnelaaDoor
namespace Go.Proofs.YtiebpncpdbnelaaDoor
theorem run_self {E : List (List Nd)} {asks : List (Nat → Bool)} {q : Nat} (ha : Arc E q q) (h : ∀ p ∈ asks, p q = true) : Runs E asks q :=
 ⟨fun _ => q, rfl, fun _ => ha, fun p hp k => ⟨k, lR, h p hp⟩⟩
end Go.Proofs.YtiebpncpdbnelaaDoor
namespace Go.Proofs.YtiebpncpdbnelaaDoor
open Go.RowKit
theorem sl_blkA {w : World} {b T n size : Nat} {cs : Array Value} {xs : List Value} {B : Nat} (h : w.1[b]? = some (.cells cs T (0, 0))) (hx : cs.toList = xs) (hn : xs.length = n * size) (hm : n ≤ maxLen) (hb : b < B) : Sl w B size (some ⟨b, 0, none⟩) n n xs := by
 refine ⟨hn, lR, hm, fun h => (by cases h), .inr ⟨b, 0, rfl, hb, fun j u hu => ?_⟩⟩
 rw [Nat.zero_add, cell_of_row w b j _ _ _ h]
 rw [← hx] at hu
 simpa using hu
theorem als (l : List Obj) : ∀ w : World, Below w.1.size w (l.foldl World.alloc w) ∧ (l.foldl World.alloc w).1.size = w.1.size + l.length ∧ ∀ i o, l[i]? = some o → (l.foldl World.alloc w).1[w.1.size + i]? = some o := by
 induction l with
 | nil => exact fun w => ⟨bR, rfl, fun i o h => by cases h⟩
 | cons x l ih =>
  intro w
  obtain ⟨h1, h2, h3⟩ := ih (w.alloc x)
  have hs : (w.alloc x).1.size = w.1.size + 1 := by simp
  rw [hs] at h1 h2 h3
  refine ⟨(bR.alloc lR _).trans (h1.mono (Nat.le_succ _)), by rw [List.foldl_cons, h2, List.length_cons]; omega, fun i o h => ?_⟩
  rw [List.foldl_cons]
  cases i with
  | zero =>
   rw [Nat.add_zero, h1.block _ (Nat.lt_succ_self _), heap_alloc_new w x]
   exact h
  | succ i =>
   rw [show w.1.size + (i + 1) = w.1.size + 1 + i by omega]
   exact h3 i o h
end Go.Proofs.YtiebpncpdbnelaaDoor
