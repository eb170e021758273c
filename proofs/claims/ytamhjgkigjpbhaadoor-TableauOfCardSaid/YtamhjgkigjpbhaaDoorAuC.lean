/- What is wrong first with an automaton (layer 30's document); plain. -/
import Derived.Test.YtamhjgkigjpbhaaDoorMl
namespace Go.Proofs.YtamhjgkigjpbhaaDoor

def chkNd (N : Nat) (s : Int) (x : ANd) : Int := if x.to.all (isNd N) = true then (if x.inn >>> s.toNat = 0 then 0 else 3) else 10
def chkNds (N : Nat) (s : Int) : List ANd → Int
  | [] => 0
  | x :: r => if chkNd N s x = 0 then chkNds N s r else chkNd N s x
/-- The document's Check. -/
def chkA (a : Aut) : Int := if 256 < a.nodes.length ∨ 16 < a.sets then 11 else if a.sets < 0 then 10 else if a.init.all (isNd a.nodes.length) = true then chkNds a.nodes.length a.sets a.nodes else 10
theorem chkNds_ok {N : Nat} {s : Int} : ∀ {l : List ANd}, (∀ x ∈ l, chkNd N s x = 0) → chkNds N s l = 0
  | [], _ => rfl
  | x :: r, h => by
    unfold chkNds
    rw [if_pos (h x (by simp))]
    exact chkNds_ok (fun y hy => h y (by simp [hy]))
theorem chkNds_at {N : Nat} {s : Int} : ∀ {l : List ANd} {i : Nat} (hi : i < l.length), (∀ x ∈ l.take i, chkNd N s x = 0) → chkNd N s l[i] ≠ 0 → chkNds N s l = chkNd N s l[i]
  | x :: r, 0, _, _, hx => by
    unfold chkNds
    rw [if_neg (by simpa using hx)]; rfl
  | x :: r, i + 1, hi, h, hx => by
    unfold chkNds
    rw [if_pos (h x (by simp))]
    simp only [List.getElem_cons_succ] at hx ⊢
    exact chkNds_at (by simpa using hi) (fun y hy => h y (by simp [hy])) hx
theorem chkA_zero {a : Aut} (h1 : a.nodes.length ≤ 256) (h2 : 0 ≤ a.sets ∧ a.sets ≤ 16) (h3 : a.Ok) (h4 : ∀ x ∈ a.nodes, x.inn < 2 ^ a.sets.toNat) : chkA a = 0 := by
  unfold chkA
  rw [if_neg (by omega), if_neg (by omega), if_pos (List.all_eq_true.2 (fun i hi => h3.1 i hi))]
  refine chkNds_ok (fun x hx => ?_)
  unfold chkNd
  rw [if_pos (List.all_eq_true.2 (fun t ht => h3.2 x hx t ht)), if_pos (by rw [Nat.shiftRight_eq_div_pow]; exact Nat.div_eq_of_lt (h4 x hx))]
theorem all_takeS {α : Type} {l : List α} {P : α → Prop} {i : Nat} (hi : i < l.length) (h : ∀ x ∈ l.take i, P x) (hx : P l[i]) : ∀ x ∈ l.take (i + 1), P x := by
  intro x hm
  rw [take_snoc l i hi] at hm
  rcases List.mem_append.1 hm with hm | hm
  · exact h x hm
  · rw [List.mem_singleton] at hm; subst hm; exact hx
end Go.Proofs.YtamhjgkigjpbhaaDoor
