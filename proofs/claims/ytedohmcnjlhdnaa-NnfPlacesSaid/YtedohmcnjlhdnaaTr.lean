/- Formulas as trees: what lists of nodes are formulas, and where their parts lie. Plain. -/
import Derived.Test.YtedohmcnjlhdnaaLtlP2
namespace Go.Proofs.Ytedohmcnjlhdnaa

inductive Tr where
  | leaf (x : Nd)
  | un (x : Nd) (a : Tr)
  | bin (x : Nd) (a b : Tr)

def Tr.flat : Tr → List Nd
  | .leaf x => [x]
  | .un x a => a.flat ++ [x]
  | .bin x a b => a.flat ++ (b.flat ++ [x])
def Tr.size : Tr → Nat
  | .leaf _ => 1
  | .un _ a => a.size + 1
  | .bin _ a b => a.size + b.size + 1
def Tr.ok : Tr → Prop
  | .leaf x => takes x.op = 0 ∧ (x.op = 3 → 0 ≤ x.n ∧ x.n < 8)
  | .un x a => takes x.op = 1 ∧ a.ok
  | .bin x a b => takes x.op = 2 ∧ a.ok ∧ b.ok
/-- Where each part begins, of a tree that begins at b. -/
def Tr.begs : Tr → Nat → List Int
  | .leaf _, b => [(b : Int)]
  | .un _ a, b => a.begs b ++ [(b : Int)]
  | .bin _ a c, b => a.begs b ++ (c.begs (b + a.size) ++ [(b : Int)])

theorem Tr.flat_len : ∀ t : Tr, t.flat.length = t.size
  | .leaf _ => rfl
  | .un _ a => by simp [Tr.flat, Tr.size, a.flat_len]
  | .bin _ a b => by simp [Tr.flat, Tr.size, a.flat_len, b.flat_len]; omega
theorem Tr.begs_len : ∀ (t : Tr) (b : Nat), (t.begs b).length = t.size
  | .leaf _, _ => rfl
  | .un _ a, b => by simp [Tr.begs, Tr.size, a.begs_len]
  | .bin _ a c, b => by simp [Tr.begs, Tr.size, a.begs_len, c.begs_len]; omega
theorem Tr.size_pos (t : Tr) : 0 < t.size := by cases t <;> simp [Tr.size]

theorem takes3op : takes 3 = 0 := rfl
theorem Tr.bad_leaf {x : Nd} {d : Nat} (h : takes x.op = 0) (h3 : x.op = 3 → 0 ≤ x.n ∧ x.n < 8) : bad x d = 0 :=
  bad_none (by omega) (by omega) (by by_cases e : x.op = 3; exact .inr (h3 e); exact .inl e)
theorem Tr.bad_node {x : Nd} {d : Nat} (h : 1 ≤ takes x.op) (hd : takes x.op ≤ (d : Int)) : bad x d = 0 :=
  bad_none (by omega) hd (.inl (fun e => by rw [e, takes3op] at h; omega))

theorem Tr.scan_flat : ∀ (t : Tr) (r : List Nd) (d : Nat), t.ok → scan (t.flat ++ r) d = scan r (d + 1)
  | .leaf x, r, d, ⟨h, h3⟩ => by
    show scan (x :: r) d = _
    rw [scan, if_pos (Tr.bad_leaf h h3), h]; rfl
  | .un x a, r, d, ⟨h, ha⟩ => by
    rw [Tr.flat, List.append_assoc, a.scan_flat _ _ ha]
    show scan (x :: r) (d + 1) = _
    rw [scan, if_pos (Tr.bad_node (by omega) (by omega)), h]; rfl
  | .bin x a b, r, d, ⟨h, ha, hb⟩ => by
    rw [Tr.flat, List.append_assoc, a.scan_flat _ _ ha, List.append_assoc, b.scan_flat _ _ hb]
    show scan (x :: r) (d + 1 + 1) = _
    rw [scan, if_pos (Tr.bad_node (by omega) (by omega)), h]
    congr 1
theorem Tr.wrong_flat {t : Tr} (h : t.ok) : wrong t.flat = 0 := by
  have hs : scan t.flat 0 = (0, 1) := by
    have := t.scan_flat [] 0 h
    rw [List.append_nil] at this
    rw [this]; rfl
  have hne : t.flat ≠ [] := by
    intro e
    have := t.flat_len
    rw [e] at this
    have := t.size_pos
    simp at *
    omega
  rw [wrong_end hne hs]; decide

theorem Tr.runs_flat : ∀ (t : Tr) (st o : List Int), t.ok → t.flat.foldl stp (st, o) = (st ++ [(o.length : Int)], o ++ t.begs o.length)
  | .leaf x, st, o, ⟨h, _⟩ => by simp [Tr.flat, Tr.begs, stp, h]
  | .un x a, st, o, ⟨h, ha⟩ => by
    rw [Tr.flat, List.foldl_append, a.runs_flat _ _ ha]
    simp [stp, h, Tr.begs]
  | .bin x a b, st, o, ⟨h, ha, hb⟩ => by
    rw [Tr.flat, List.foldl_append, a.runs_flat _ _ ha, List.foldl_append, b.runs_flat _ _ hb]
    have e : (o ++ a.begs o.length).length = o.length + a.size := by rw [List.length_append, a.begs_len]
    have h2 : (st ++ [(o.length : Int)] ++ [((o.length + a.size : Nat) : Int)]).length - 2 = st.length := by simp
    rw [e]
    simp only [List.foldl_cons, List.foldl_nil, stp, h, Tr.begs]
    rw [show ((2 : Int)).toNat = 2 from rfl, if_pos (by omega), h2]
    have hg : (st ++ [(o.length : Int)] ++ [((o.length + a.size : Nat) : Int)]).getD st.length 0 = (o.length : Int) := by simp [List.getD]
    rw [hg]
    simp
theorem Tr.spans_flat {t : Tr} (h : t.ok) : spans t.flat = t.begs 0 := by
  rw [spans, if_pos (Tr.wrong_flat h), runs, t.runs_flat [] [] h]
  simp

/-- Any nodes that are a formula are a tree's. -/
theorem parse_take (l : List Nd) (h : (scan l 0).1 = 0) : ∀ k, k ≤ l.length → ∃ ts : List Tr, (∀ t ∈ ts, t.ok) ∧ l.take k = ts.flatMap Tr.flat ∧ scan (l.take k) 0 = (0, ts.length) := by
  intro k
  induction k with
  | zero => intro _; exact ⟨[], by simp, by simp, by simp [scan]⟩
  | succ k ih =>
    intro hk
    obtain ⟨ts, hok, hfl, hsc⟩ := ih (by omega)
    have hkl : k < l.length := by omega
    have hb : bad l[k] ts.length = 0 := by
      rcases Decidable.em (bad l[k] ts.length = 0) with h' | h'
      · exact h'
      · exact absurd ((scan_bad hkl hsc h').2.symm.trans h) h'
    have hs := scan_ok hkl hsc hb
    obtain ⟨h0, hle, h3⟩ := good_takes hb
    have hbd := takes_bd l[k].op
    have ht : takes l[k].op = 0 ∨ takes l[k].op = 1 ∨ takes l[k].op = 2 := by omega
    rcases ht with ht | ht | ht
    · refine ⟨ts ++ [.leaf l[k]], ?_, ?_, ?_⟩
      · intro t hm
        simp only [List.mem_append, List.mem_singleton] at hm
        rcases hm with hm | rfl
        · exact hok t hm
        · exact ⟨ht, h3⟩
      · rw [take_snoc l k hkl, hfl]; simp [Tr.flat]
      · rw [hs, ht]; simp
    · obtain ⟨ts', a, rfl⟩ : ∃ ts' a, ts = ts' ++ [a] := by
        have hne : ts ≠ [] := by rintro rfl; simp [ht] at hle
        exact ⟨ts.dropLast, ts.getLast hne, (List.dropLast_concat_getLast hne).symm⟩
      refine ⟨ts' ++ [.un l[k] a], ?_, ?_, ?_⟩
      · intro t hm
        simp only [List.mem_append, List.mem_singleton] at hm
        rcases hm with hm | rfl
        · exact hok t (by simp [hm])
        · exact ⟨ht, hok a (by simp)⟩
      · rw [take_snoc l k hkl, hfl]; simp [Tr.flat]
      · rw [hs, ht]; simp
    · obtain ⟨ts', a, b, rfl⟩ : ∃ ts' a b, ts = ts' ++ [a, b] := by
        have h2 : 2 ≤ ts.length := by omega
        refine ⟨ts.take (ts.length - 2), ts[ts.length - 2], ts[ts.length - 1], ?_⟩
        conv => lhs; rw [← List.take_append_drop (ts.length - 2) ts]
        congr 1
        rw [List.drop_eq_getElem_cons (by omega)]
        congr 1
        have : ts.length - 2 + 1 = ts.length - 1 := by omega
        rw [this, List.drop_eq_getElem_cons (by omega), List.drop_eq_nil_of_le (by omega)]
      refine ⟨ts' ++ [.bin l[k] a b], ?_, ?_, ?_⟩
      · intro t hm
        simp only [List.mem_append, List.mem_singleton] at hm
        rcases hm with hm | rfl
        · exact hok t (by simp [hm])
        · exact ⟨ht, hok a (by simp), hok b (by simp)⟩
      · rw [take_snoc l k hkl, hfl]; simp [Tr.flat]
      · rw [hs, ht]; simp
theorem parse {f : List Nd} (h : wrong f = 0) : ∃ t : Tr, t.ok ∧ f = t.flat := by
  have hs := scan_good h
  obtain ⟨ts, hok, hfl, hsc⟩ := parse_take f (by rw [hs]) f.length (Nat.le_refl _)
  rw [List.take_of_length_le (Nat.le_refl _)] at hfl hsc
  rw [hs] at hsc
  have hl : ts.length = 1 := by simpa using (congrArg Prod.snd hsc).symm
  match ts, hl with
  | [t], _ => exact ⟨t, hok t (by simp), by simpa using hfl⟩

/-- The tree t lies in f from b on, s telling where parts begin. -/
def At (f : List Nd) (s : List Int) : Nat → Tr → Prop
  | b, .leaf x => f[b]? = some x ∧ s[b]? = some (b : Int)
  | b, .un x a => At f s b a ∧ f[b + a.size]? = some x ∧ s[b + a.size]? = some (b : Int)
  | b, .bin x a c => At f s b a ∧ At f s (b + a.size) c ∧ f[b + a.size + c.size]? = some x ∧ s[b + a.size + c.size]? = some (b : Int)
def Tr.root : Tr → Nd
  | .leaf x => x
  | .un x _ => x
  | .bin x _ _ => x
theorem at_root {f : List Nd} {s : List Int} {b k : Nat} {t : Tr} (h : At f s b t) (hk : k + 1 = b + t.size) : f[k]? = some t.root ∧ s[k]? = some (b : Int) := by
  cases t with
  | leaf x => simp only [Tr.size] at hk; (obtain rfl : k = b := (by omega)); exact h
  | un x a => simp only [Tr.size] at hk; (obtain rfl : k = b + a.size := (by omega)); exact h.2
  | bin x a c => simp only [Tr.size] at hk; (obtain rfl : k = b + a.size + c.size := (by omega)); exact h.2.2
theorem at_mid {α : Type} (p q : List α) (x : α) (r : List α) {n : Nat} (h : n = p.length + q.length) : (p ++ (q ++ (x :: r)))[n]? = some x := by
  rw [h, ← List.append_assoc, List.getElem?_append_right (by simp), List.length_append]; simp
theorem at_here : ∀ (t : Tr) (p r : List Nd) (sp sr : List Int) (b : Nat), p.length = b → sp.length = b → At (p ++ (t.flat ++ r)) (sp ++ (t.begs b ++ sr)) b t
  | .leaf x, p, r, sp, sr, b, hp, hs => by
    refine ⟨?_, ?_⟩
    · have := at_mid p [] x r (n := b) (by simp [hp]); simpa [Tr.flat] using this
    · have := at_mid sp [] (b : Int) sr (n := b) (by simp [hs]); simpa [Tr.begs] using this
  | .un x a, p, r, sp, sr, b, hp, hs => by
    refine ⟨?_, ?_, ?_⟩
    · have := at_here a p ([x] ++ r) sp ([(b : Int)] ++ sr) b hp hs
      simpa [Tr.flat, Tr.begs] using this
    · have := at_mid p a.flat x r (n := b + a.size) (by rw [hp, a.flat_len]); simpa [Tr.flat] using this
    · have := at_mid sp (a.begs b) (b : Int) sr (n := b + a.size) (by rw [hs, a.begs_len]); simpa [Tr.begs] using this
  | .bin x a c, p, r, sp, sr, b, hp, hs => by
    refine ⟨?_, ?_, ?_, ?_⟩
    · have := at_here a p (c.flat ++ [x] ++ r) sp (c.begs (b + a.size) ++ [(b : Int)] ++ sr) b hp hs
      simpa [Tr.flat, Tr.begs] using this
    · have := at_here c (p ++ a.flat) ([x] ++ r) (sp ++ a.begs b) ([(b : Int)] ++ sr) (b + a.size) (by rw [List.length_append, hp, a.flat_len]) (by rw [List.length_append, hs, a.begs_len])
      simpa [Tr.flat, Tr.begs] using this
    · have := at_mid (p ++ a.flat) c.flat x r (n := b + a.size + c.size) (by rw [List.length_append, hp, a.flat_len, c.flat_len]); simpa [Tr.flat] using this
    · have := at_mid (sp ++ a.begs b) (c.begs (b + a.size)) (b : Int) sr (n := b + a.size + c.size) (by rw [List.length_append, hs, a.begs_len, c.begs_len]); simpa [Tr.begs] using this
theorem at_whole {t : Tr} (h : t.ok) : At t.flat (spans t.flat) 0 t := by
  have := at_here t [] [] [] [] 0 rfl rfl
  rw [Tr.spans_flat h]
  simpa using this

/-- Trees, read off a list with a stack, the top first. -/
def pstep (st : List Tr) (x : Nd) : List Tr :=
  if takes x.op = 0 then .leaf x :: st
  else if takes x.op = 1 then (match st with | a :: r => .un x a :: r | [] => [])
  else (match st with | b :: a :: r => .bin x a b :: r | _ => [])
theorem pstep_flat : ∀ (t : Tr) (st : List Tr), t.ok → t.flat.foldl pstep st = t :: st
  | .leaf x, st, ⟨h, _⟩ => by simp [Tr.flat, pstep, h]
  | .un x a, st, ⟨h, ha⟩ => by rw [Tr.flat, List.foldl_append, pstep_flat a st ha]; simp [pstep, h]
  | .bin x a b, st, ⟨h, ha, hb⟩ => by
    rw [Tr.flat, List.foldl_append, pstep_flat a st ha, List.foldl_append, pstep_flat b _ hb]; simp [pstep, h]
def treeOf (f : List Nd) : Tr := (f.foldl pstep []).headD (.leaf ⟨0, 0⟩)
theorem treeOf_flat {t : Tr} (h : t.ok) : treeOf t.flat = t := by rw [treeOf, pstep_flat t [] h]; rfl
theorem treeOf_ok {f : List Nd} (h : wrong f = 0) : (treeOf f).ok ∧ (treeOf f).flat = f := by
  obtain ⟨t, hok, rfl⟩ := parse h
  rw [treeOf_flat hok]; exact ⟨hok, rfl⟩
end Go.Proofs.Ytedohmcnjlhdnaa
