/- Arguments opened: a struct of two numbers and two slices of numbers (a cover). No program in sight. -/
import Derived.Test.YtedohmcnjlhdnaaMc
namespace Go.Proofs.Ytedohmcnjlhdnaa
open Go.ChangeShapes Go.WideShapes Go.RowKit Go.Deep
section
variable {H : Type} {enc : TypeId × Value → H} {P : Program} {w : World} {base : Nat} {spare : Nat → Bool} {held : Bool}
/-- A struct of two numbers and two slices of numbers. -/
theorem open_cover {r : Reach} {b0 : Nat} {t ta tb t0 t1 e0 e1 : TypeId} {f0 f1 f2 f3 : Field} {ka kb k0 k1 : IntKind} {v : Value} {d : DataW H} {p : List MemPlace} (hs : P.underlying t = some (.struct #[f0, f1, f2, f3])) (hone : oneCellFields P #[f0, f1, f2, f3] = true) (hC : P.cellsOf t = 4)
    (eaf : f0.type = ta) (ebf : f1.type = tb) (e0f : f2.type = t0) (e1f : f3.type = t1) (hta : P.underlying ta = some (.int ka)) (htb : P.underlying tb = some (.int kb)) (ht0 : P.underlying t0 = some (.slice e0)) (ht1 : P.underlying t1 = some (.slice e1)) (hc0 : P.cellsOf e0 = 1) (hc1 : P.cellsOf e1 = 1) (he0 : P.underlying e0 = some (.int k0)) (he1 : P.underlying e1 = some (.int k1))
    (hv : Value.okWide P w r b0 t v) (h : DataW.Trod enc P w base spare held t v d p) (hsm : Small P t d) :
    ∃ (a b : Int) (A : Option Addr) (c : Nat) (l : List Int) (B : Option Addr) (c' : Nat) (m : List Int), v = .agg #[.int ka a, .int kb b, .slice A l.length c, .slice B m.length c'] ∧ Sl w w.heap.size 1 A l.length c (l.map (.int k0)) ∧ Sl w w.heap.size 1 B m.length c' (m.map (.int k1)) ∧
      l.length * P.bytesOf e0 ≤ reachBytes ∧ m.length * P.bytesOf e1 ≤ reachBytes ∧ (Lit.int ka a).wf = true ∧ (Lit.int kb b).wf = true ∧ (∀ n ∈ l, (Lit.int k0 n).wf = true) ∧ ∀ n ∈ m, (Lit.int k1 n).wf = true := by
  subst eaf; subst ebf; subst e0f; subst e1f
  obtain ⟨v0, v1, v2, v3, y0, y1, y2, y3, n, rfl, rfl, _, h0, h1, h2, h3⟩ := Joins.open_agg4 hs hone hC hv h
  obtain ⟨a, q0, _, w0⟩ := DataW.trod_int hta h0
  obtain ⟨b, q1, _, w1⟩ := DataW.trod_int htb h1
  obtain ⟨A, c, l, a1, a2, a3, a4⟩ := open_nums ht0 hc0 he0 h2 (small_agg hs hsm (i := 2) rfl rfl)
  obtain ⟨B, c', m, b1, b2, b3, b4⟩ := open_nums ht1 hc1 he1 h3 (small_agg hs hsm (i := 3) rfl rfl)
  simp at a1 b1 q0 q1
  subst a1; subst b1; subst q0; subst q1
  exact ⟨a, b, A, c, l, B, c', m, rfl, a2, b2, a3, b3, w0, w1, a4, b4⟩
end
end Go.Proofs.Ytedohmcnjlhdnaa
