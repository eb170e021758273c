/- The walks of layer 26: op, same, literal, other, bare. -/
import Derived.Test.YtkikkplpalabhaaEqF
import Derived.Test.YtkikkplpalabhaaMs
import Derived.Outline
namespace Go.Proofs.Ytkikkplpalabhaa
open Go.RowKit

theorem opL_last {l : List Nd} {k : Nat} (h : l.length = k + 1) : ∃ hk : k < l.length, opL l = l[k].op := by
  refine ⟨by omega, ?_⟩
  have hne : l ≠ [] := by rintro rfl; simp at h
  have e : l.length - 1 = k := by omega
  rw [opL, List.getLast?_eq_getElem?, e, List.getElem?_eq_getElem (by omega)]
  rfl
set_option maxHeartbeats 400000 in
theorem fop_any (A : Option Addr) (n c : Nat) (l : List Nd) (w : World) (B : Nat) (hs : Sl w B 2 A n c (ncells l)) (hn : n = l.length) (hne : 0 < n) (hl : n ≤ 1000000000) :
    Calls Try.prog 114 #[.slice A n c] w fun e w' => e = .returned (.int .i64 (opL l)) ∧ w = w' := by
  obtain ⟨k, rfl⟩ : ∃ k, n = k + 1 := ⟨n - 1, by omega⟩
  obtain ⟨hk, ho⟩ := opL_last hn.symm
  obtain ⟨b, o, rfl, _, hc, hd⟩ := rd_nd hs.rd hk
  rw [ho]
  clear ho hn
  generalize l[k] = x at *
  go_enter Try.func114, Try.ntmps114
  go_wp2
  go_ret
  exact ⟨rfl, rfl⟩
theorem fsame_any (A1 A2 : Option Addr) (n1 c1 n2 c2 : Nat) (xs ys : List Nd) (w : World) (B1 B2 : Nat) (hx : Sl w B1 2 A1 n1 c1 (ncells xs)) (hy : Sl w B2 2 A2 n2 c2 (ncells ys)) (hn1 : n1 = xs.length) (hn2 : n2 = ys.length) (hl : n1 ≤ 1000000000) :
    Calls Try.prog 120 #[.slice A1 n1 c1, .slice A2 n2 c2] w (Said w (decide (xs = ys))) := by
  have h := equalF_any A1 A2 n1 c1 n2 c2 xs ys w B1 B2 hx hy hn1 hn2 hl
  have H := Lib.hid h
  clear h hn1 hn2
  go_enter Try.func120, Try.ntmps120
  go_wp2_with fail
  refine Calls.mono H.out ?_
  rintro e w1 ⟨rfl, m, hw⟩
  have HW := Lib.hid hw
  clear hw
  go_wp2
  go_ret
  exact ⟨rfl, m, HW.out⟩
/-- What literal answers. -/
def litV (l : List Nd) : Int × Bool × Bool := match litL l with | some (n, b) => (n, b, true) | none => (0, false, false)
def LitPost (l : List Nd) (w : World) (e : Ending) (w' : World) : Prop := e = .returned (.tuple #[.int .i64 (litV l).1, .bool (litV l).2.1, .bool (litV l).2.2]) ∧ w = w'
theorem lit_of {l : List Nd} {n : Int} {a b : Bool} (h : litV l = (n, a, b)) (w : World) : LitPost l w (.returned (.tuple #[.int .i64 n, .bool a, .bool b])) w := by rw [LitPost, h]; exact ⟨rfl, rfl⟩
set_option maxHeartbeats 1000000 in
theorem literal_any (A : Option Addr) (n c : Nat) (l : List Nd) (w : World) (B : Nat) (hs : Sl w B 2 A n c (ncells l)) (hn : n = l.length) (hl : n ≤ 1000000000) :
    Calls Try.prog 127 #[.slice A n c] w (LitPost l w) := by
  by_cases h1 : n = 1
  · obtain ⟨x, rfl⟩ := List.length_eq_one_iff.1 (hn.symm.trans h1)
    subst h1
    clear hn
    obtain ⟨b, o, rfl, _, hc, hd⟩ := rd_nd hs.rd (k := 0) (by simp)
    simp only [List.getElem_cons_zero, Nat.zero_mul, Nat.add_zero] at hc hd
    obtain ⟨op, m⟩ := x
    dsimp only at hc hd
    have e11 : ((1 : Int) == 1) = true := rfl
    by_cases h3 : op = 3
    · subst h3
      have e33 : ((3 : Int) == 3) = true := rfl
      go_enter Try.func127, Try.ntmps127
      go_wp2
      exact bodyPost_ret (v := .tuple #[.int .i64 m, .bool false, .bool true]) (by simp [results, Try.results127, go_sem]) rfl (lit_of (by simp [litV, litL]) _)
    · have e3 : (op == 3) = false := by simpa using h3
      have e12 : ((1 : Int) == 2) = false := rfl
      have H3 := Lib.hid h3
      clear h3
      go_enter Try.func127, Try.ntmps127
      go_wp2
      exact bodyPost_ret (v := .tuple #[.int .i64 0, .bool false, .bool false]) (by simp [results, Try.results127, go_sem]) rfl (lit_of (by simp [litV, litL, H3.out]) _)
  by_cases h2 : n = 2
  · obtain ⟨x, y, rfl⟩ : ∃ x y, l = [x, y] := by
      match l, hn.symm.trans h2 with
      | [x, y], _ => exact ⟨x, y, rfl⟩
    subst h2
    clear hn h1
    obtain ⟨b, o, rfl, _, hc, hd⟩ := rd_nd hs.rd (k := 0) (by simp)
    obtain ⟨b', o', e', _, hc', hd'⟩ := rd_nd hs.rd (k := 1) (by simp)
    cases e'
    simp only [List.getElem_cons_zero, List.getElem_cons_succ, Nat.zero_mul, Nat.add_zero, Nat.one_mul] at hc hd hc' hd'
    obtain ⟨op, m⟩ := x
    obtain ⟨op', m'⟩ := y
    dsimp only at hc hd hc' hd'
    have e21 : ((2 : Int) == 1) = false := rfl
    have e22 : ((2 : Int) == 2) = true := rfl
    by_cases h3 : op = 3
    · subst h3
      have e33 : ((3 : Int) == 3) = true := rfl
      by_cases h4 : op' = 4
      · subst h4
        have e44 : ((4 : Int) == 4) = true := rfl
        go_enter Try.func127, Try.ntmps127
        go_wp2
        exact bodyPost_ret (v := .tuple #[.int .i64 m, .bool true, .bool true]) (by simp [results, Try.results127, go_sem]) rfl (lit_of (by simp [litV, litL]) _)
      · have e4 : (op' == 4) = false := by simpa using h4
        have H4 := Lib.hid h4
        clear h4
        go_enter Try.func127, Try.ntmps127
        go_wp2
        exact bodyPost_ret (v := .tuple #[.int .i64 0, .bool false, .bool false]) (by simp [results, Try.results127, go_sem]) rfl (lit_of (by simp [litV, litL, H4.out]) _)
    · have e3 : (op == 3) = false := by simpa using h3
      have H3 := Lib.hid h3
      clear h3
      go_enter Try.func127, Try.ntmps127
      go_wp2
      exact bodyPost_ret (v := .tuple #[.int .i64 0, .bool false, .bool false]) (by simp [results, Try.results127, go_sem]) rfl (lit_of (by simp [litV, litL, H3.out]) _)
  · have e1 : ((n : Int) == 1) = false := by simpa using (by omega : ¬ ((n : Int) = 1))
    have e2 : ((n : Int) == 2) = false := by simpa using (by omega : ¬ ((n : Int) = 2))
    have hv : litV l = (0, false, false) := by
      match l, hn with
      | [], _ => rfl
      | [_], hn => exact absurd hn h1
      | [_, _], hn => exact absurd hn h2
      | _ :: _ :: _ :: _, _ => rfl
    have HV := Lib.hid hv
    clear hv h1 h2 hn
    go_enter Try.func127, Try.ntmps127
    go_wp2
    exact bodyPost_ret (v := .tuple #[.int .i64 0, .bool false, .bool false]) (by simp [results, Try.results127, go_sem]) rfl (lit_of HV.out _)
theorem otherL_lit (a b : List Nd) : otherL a b = ((litV a).2.2 && (litV b).2.2 && ((litV a).1 == (litV b).1) && ((litV a).2.1 != (litV b).2.1)) := by
  unfold otherL litV
  cases litL a <;> cases litL b <;> rfl
set_option maxHeartbeats 1000000 in
theorem other_any (A1 A2 : Option Addr) (n1 c1 n2 c2 : Nat) (xs ys : List Nd) (w : World) (B1 B2 : Nat) (hx : Sl w B1 2 A1 n1 c1 (ncells xs)) (hy : Sl w B2 2 A2 n2 c2 (ncells ys)) (hn1 : n1 = xs.length) (hn2 : n2 = ys.length) (hl : n1 ≤ 1000000000) (hl2 : n2 ≤ 1000000000) :
    Calls Try.prog 121 #[.slice A1 n1 c1, .slice A2 n2 c2] w fun e w' => e = .returned (.bool (otherL xs ys)) ∧ w = w' := by
  have h1 := literal_any A1 n1 c1 xs w B1 hx hn1 hl
  have h2 := literal_any A2 n2 c2 ys w B2 hy hn2 hl2
  rw [otherL_lit]
  unfold LitPost at h1 h2
  generalize litV xs = p at *
  generalize litV ys = q at *
  obtain ⟨a, b, d⟩ := p
  obtain ⟨a', b', d'⟩ := q
  dsimp only at *
  have H1 := Lib.hid h1
  have H2 := Lib.hid h2
  clear h1 h2 hn1 hn2
  cases d <;> cases d'
  all_goals
    first
      | (go_enter Try.func121, Try.ntmps121
         go_wp2_with fail
         refine Calls.mono H1.out ?_
         rintro e w1 ⟨rfl, rfl⟩
         go_wp2_with fail
         refine Calls.mono H2.out ?_
         rintro e w1 ⟨rfl, rfl⟩
         go_wp2
         go_ret
         exact ⟨rfl, rfl⟩)
      | (cases e : (a == a') <;> cases b <;> cases b'
         all_goals
           have He := Lib.hid e
           go_enter Try.func121, Try.ntmps121
           go_wp2_with fail
           refine Calls.mono H1.out ?_
           rintro e w1 ⟨rfl, rfl⟩
           go_wp2_with fail
           refine Calls.mono H2.out ?_
           rintro e w1 ⟨rfl, rfl⟩
           go_wp2
           go_ret
           exact ⟨rfl, rfl⟩)
set_option maxHeartbeats 400000 in
theorem bare_any (A : Option Addr) (n c : Nat) (l : List Nd) (w : World) (B : Nat) (hs : Sl w B 2 A n c (ncells l)) (hn : n = l.length) (hne : 0 < n) (hl : n ≤ 1000000000) :
    Calls Try.prog 86 #[.slice A n c] w fun e w' => e = .returned (.bool (bareL l)) ∧ w = w' := by
  have h := fop_any A n c l w B hs hn hne hl
  unfold bareL
  generalize opL l = x at *
  have H := Lib.hid h
  clear h hn
  cases e1 : (x == 1)
  all_goals
    go_enter Try.func86, Try.ntmps86
    go_wp2_with (go_at_call 114; refine Calls.mono H.out ?_; rintro e w1 ⟨rfl, rfl⟩)
    go_ret
    exact ⟨by simp, rfl⟩
end Go.Proofs.Ytkikkplpalabhaa
