/- Texts of one kind, in one file. -/
import Derived.Test.YtamhjgkigjpbhaaDoorMa

/- (XSimpP) Formulas, made smaller: on lists, as the program does it, and on trees. Plain. -/
namespace Go.Proofs.YtamhjgkigjpbhaaDoor


/-- The last operation. -/
def opL (f : List Nd) : Int := (f.getLast?.map (·.op)).getD 0
def withL (op : Int) (l : List Nd) : List Nd := l ++ [⟨op, 0⟩]
def litL (f : List Nd) : Option (Int × Bool) :=
  match f with
  | [x] => if x.op = 3 then some (x.n, false) else none
  | [x, y] => if x.op = 3 ∧ y.op = 4 then some (x.n, true) else none
  | _ => none
def otherL (f g : List Nd) : Bool :=
  match litL f, litL g with
  | some (n, a), some (k, b) => n == k && a != b
  | _, _ => false
def partsL (f : List Nd) : List Nd × List Nd :=
  if (kids f ((f.length : Int) - 1)).1 < 0 then ([], [])
  else if (kids f ((f.length : Int) - 1)).2 < 0 then (f.take ((kids f ((f.length : Int) - 1)).1 + 1).toNat, [])
  else (f.take ((kids f ((f.length : Int) - 1)).1 + 1).toNat, (f.take ((kids f ((f.length : Int) - 1)).2 + 1).toNat).drop ((kids f ((f.length : Int) - 1)).1 + 1).toNat)
def hasL (f : List Nd) (op : Int) (g : List Nd) : Bool := opL f == op && (decide ((partsL f).1 = g) || decide ((partsL f).2 = g))
def noOf (op : Int) : Int := if op = 6 then 1 else 2
def yesOf (op : Int) : Int := if op = 6 then 2 else 1
def dualOf (op : Int) : Int := if op = 6 then 5 else 6
def bothL (op : Int) (a b : List Nd) : List Nd :=
  if opL a = noOf op ∨ opL b = noOf op then [⟨noOf op, 0⟩] else if opL a = yesOf op then b else if opL b = yesOf op ∨ a = b then a
  else if otherL a b = true then [⟨noOf op, 0⟩] else if hasL b (dualOf op) a = true then a else if hasL a (dualOf op) b = true then b
  else if opL a = 8 ∧ opL b = 8 then withL 8 (withL op (a.dropLast ++ b.dropLast)) else withL op (a ++ b)
def bareL (f : List Nd) : Bool := opL f == 1 || opL f == 2
def easyOf (op : Int) : Int := if op = 10 then 1 else 2
def lastL (op : Int) (a b : List Nd) : List Nd :=
  if bareL b = true ∨ opL a = easyOf op ∨ a = b then b else if opL b = op ∧ (partsL b).1 = a then b else withL op (a ++ b)
def twoL (op : Int) (a b : List Nd) : List Nd :=
  if op = 5 ∨ op = 6 then bothL op a b else if op = 9 ∨ op = 10 then lastL op a b else withL op (a ++ b)
def nextL (a : List Nd) : List Nd := if bareL a = true then a else withL 8 a
/-- One node more, on the stack of forms (the top last). -/
def ostep (st : List (List Nd)) (x : Nd) : List (List Nd) :=
  if x.op = 1 ∨ x.op = 2 then st ++ [[⟨x.op, 0⟩]] else if x.op = 3 then st ++ [[x]]
  else if x.op = 4 then st.set (st.length - 1) (withL 4 (st.getD (st.length - 1) []))
  else if x.op = 8 then st.set (st.length - 1) (nextL (st.getD (st.length - 1) []))
  else st.take (st.length - 2) ++ [twoL x.op (st.getD (st.length - 2) []) (st.getD (st.length - 1) [])]
def onceL (f : List Nd) : List Nd := if isN f = true then (f.foldl ostep []).headD [] else []

/-- The same on trees. -/
def Tr.sub : Tr → Tr
  | .un _ a => a
  | t => t
def bothT (op : Int) (a b : Tr) : Tr :=
  if a.root.op = noOf op ∨ b.root.op = noOf op then .leaf ⟨noOf op, 0⟩ else if a.root.op = yesOf op then b else if b.root.op = yesOf op ∨ a.flat = b.flat then a
  else if otherL a.flat b.flat = true then .leaf ⟨noOf op, 0⟩ else if hasL b.flat (dualOf op) a.flat = true then a else if hasL a.flat (dualOf op) b.flat = true then b
  else if a.root.op = 8 ∧ b.root.op = 8 then .un ⟨8, 0⟩ (.bin ⟨op, 0⟩ a.sub b.sub) else .bin ⟨op, 0⟩ a b
def lastT (op : Int) (a b : Tr) : Tr :=
  if bareL b.flat = true ∨ a.root.op = easyOf op ∨ a.flat = b.flat then b else if b.root.op = op ∧ (partsL b.flat).1 = a.flat then b else .bin ⟨op, 0⟩ a b
def twoT (op : Int) (a b : Tr) : Tr := if op = 5 ∨ op = 6 then bothT op a b else lastT op a b
def nextT (a : Tr) : Tr := if bareL a.flat = true then a else .un ⟨8, 0⟩ a
def onceT : Tr → Tr
  | .leaf x => if x.op = 3 then .leaf x else .leaf ⟨x.op, 0⟩
  | .un x a => if x.op = 4 then .un ⟨4, 0⟩ (onceT a) else nextT (onceT a)
  | .bin x a b => twoT x.op (onceT a) (onceT b)

theorem opL_flat (t : Tr) : opL t.flat = t.root.op := by
  have := t.lastOp_flat 0
  exact this
theorem root_leaf {t : Tr} (h : t.ok) (ht : takes t.root.op = 0) : t = .leaf t.root := by
  match t, h, ht with
  | .leaf x, _, _ => rfl
  | .un x a, h, ht => exact absurd (h.1.symm.trans ht) (by decide)
  | .bin x a b, h, ht => exact absurd (h.1.symm.trans ht) (by decide)
theorem root_un {t : Tr} (h : t.ok) (ht : takes t.root.op = 1) : t = .un t.root t.sub ∧ t.sub.ok := by
  match t, h, ht with
  | .leaf x, h, ht => exact absurd (h.1.symm.trans ht) (by decide)
  | .un x a, h, _ => exact ⟨rfl, h.2⟩
  | .bin x a b, h, ht => exact absurd (h.1.symm.trans ht) (by decide)
theorem root_bin {t : Tr} (h : t.ok) (ht : takes t.root.op = 2) : ∃ a b, t = .bin t.root a b ∧ a.ok ∧ b.ok := by
  match t, h, ht with
  | .leaf x, h, ht => exact absurd (h.1.symm.trans ht) (by decide)
  | .un x a, h, ht => exact absurd (h.1.symm.trans ht) (by decide)
  | .bin x a b, h, _ => exact ⟨a, b, rfl, h.2.1, h.2.2⟩
theorem flat_inj {s t : Tr} (hs : s.ok) (ht : t.ok) (h : s.flat = t.flat) : s = t := by
  rw [← treeOf_flat hs, ← treeOf_flat ht, h]

/-- The parts of a tree with two. -/
theorem partsL_bin {x : Nd} {a b : Tr} (h : (Tr.bin x a b).ok) : partsL (Tr.bin x a b).flat = (a.flat, b.flat) := by
  have hw := Tr.wrong_flat h
  have hp := (Tr.bin x a b).size_pos
  have hl := (Tr.bin x a b).flat_len
  have hat := at_whole h
  simp only [Tr.size] at hl
  have hb := b.size_pos
  have ha := a.size_pos
  have hk : a.size + b.size < (Tr.bin x a b).flat.length := by omega
  have hkd := kids_at hw hk
  have e : (((Tr.bin x a b).flat.length : Int) - 1) = ((a.size + b.size : Nat) : Int) := by omega
  obtain ⟨j, hj⟩ : ∃ j, j + 1 = a.size + b.size := ⟨a.size + b.size - 1, by omega⟩
  have hs := (at_root hat.2.1 (k := j) (by omega)).2
  have hx : (Tr.bin x a b).flat[a.size + b.size]'hk = x := by
    have := hat.2.2.1
    rw [Nat.zero_add] at this
    exact (List.getElem?_eq_some_iff.1 this).2
  rw [hx] at hkd
  have ht : takes x.op = 2 := h.1
  have hkk : kids (Tr.bin x a b).flat (((Tr.bin x a b).flat.length : Int) - 1) = ((a.size : Int) - 1, (((a.size + b.size : Nat) : Int) - 1)) := by
    rw [e, hkd]
    rw [ht]
    simp only [show ¬ ((2 : Int) = 1) by decide, if_false, if_true]
    rw [show a.size + b.size - 1 = j by omega, hs]
    simp
  have hfa := a.flat_len
  have hfb := b.flat_len
  unfold partsL
  rw [hkk]
  dsimp only
  rw [if_neg (by omega), if_neg (by omega)]
  have e1 : ((a.size : Int) - 1 + 1).toNat = a.flat.length := by omega
  have e2 : (((a.size + b.size : Nat) : Int) - 1 + 1).toNat = a.flat.length + b.flat.length := by omega
  rw [e1, e2, Tr.flat]
  congr 1
  · rw [List.take_left']; rfl
  · rw [← List.append_assoc, List.take_left' (by simp), List.drop_left']; rfl
theorem hasL_flat {t : Tr} {op : Int} {g : List Nd} (h : t.ok) (ht : takes op = 2) (hh : hasL t.flat op g = true) : ∃ x l r, t = .bin x l r ∧ x.op = op ∧ (l.flat = g ∨ r.flat = g) := by
  simp only [hasL, opL_flat, Bool.and_eq_true, beq_iff_eq, Bool.or_eq_true, decide_eq_true_eq] at hh
  obtain ⟨h1, h2⟩ := hh
  obtain ⟨l, r, e, _, _⟩ := root_bin h (by rw [h1]; exact ht)
  rw [e] at h h2
  rw [partsL_bin h] at h2
  exact ⟨t.root, l, r, e, h1, h2⟩

/-- One of both is the other's other one. -/
theorem otherL_flat {a b : Tr} (ha : a.ok) (hb : b.ok) (h : otherL a.flat b.flat = true) :
    ∃ n, (∃ x y z, x.op = 3 ∧ x.n = n ∧ y.op = 3 ∧ y.n = n ∧ z.op = 4 ∧ ((a = .leaf x ∧ b = .un z (.leaf y)) ∨ (b = .leaf x ∧ a = .un z (.leaf y)))) := by
  have key : ∀ (t : Tr) n s, t.ok → litL t.flat = some (n, s) → ∃ x z, x.op = 3 ∧ x.n = n ∧ z.op = 4 ∧ t = if s then .un z (.leaf x) else .leaf x := by
    intro t n s ht h
    match t, ht with
    | .leaf x, _ =>
      simp only [Tr.flat, litL] at h
      split at h
      · rename_i h3; cases h; exact ⟨x, ⟨4, 0⟩, h3, rfl, rfl, rfl⟩
      · cases h
    | .un z a, ⟨hz, ha⟩ =>
      match a, ha with
      | .leaf x, _ =>
        simp only [Tr.flat, List.singleton_append, litL] at h
        split at h
        · rename_i h3; cases h; exact ⟨x, z, h3.1, rfl, h3.2, rfl⟩
        · cases h
      | .un y c, _ =>
        exfalso
        have hl := (Tr.un z (.un y c)).flat_len
        have := c.size_pos
        simp only [Tr.size] at hl
        unfold litL at h
        split at h
        · rename_i e; rw [e] at hl; simp at hl <;> omega
        · rename_i e
          have : c.size = 0 := by rw [e] at hl; simp at hl <;> omega
          omega
        · cases h
      | .bin y c d, _ =>
        exfalso
        have hl := (Tr.un z (.bin y c d)).flat_len
        have := c.size_pos
        simp only [Tr.size] at hl
        unfold litL at h
        split at h
        · rename_i e; rw [e] at hl; simp at hl <;> omega
        · rename_i e
          rw [e] at hl; simp at hl <;> omega
        · cases h
    | .bin z c d, ⟨hz, _, _⟩ =>
      exfalso
      have hl := (Tr.bin z c d).flat_len
      have := c.size_pos
      have := d.size_pos
      simp only [Tr.size] at hl
      unfold litL at h
      split at h
      · rename_i e; rw [e] at hl; simp at hl <;> omega
      · rename_i e; rw [e] at hl; simp at hl <;> omega
      · cases h
  unfold otherL at h
  split at h
  · rename_i n s k s' h1 h2
    simp only [Bool.and_eq_true, beq_iff_eq, bne_iff_ne, ne_eq] at h
    obtain ⟨rfl, hne⟩ := h
    obtain ⟨x, z, p1, p2, p3, p4⟩ := key a n s ha h1
    obtain ⟨y, z', q1, q2, q3, q4⟩ := key b n s' hb h2
    cases s <;> cases s' <;> simp at hne p4 q4
    · exact ⟨n, x, y, z', p1, p2, q1, q2, q3, .inl ⟨p4, q4⟩⟩
    · exact ⟨n, y, x, z, q1, q2, p1, p2, p3, .inr ⟨q4, p4⟩⟩
  · cases h

/-- What becomes of two parts and FAnd or FOr. -/
inductive Bt (op : Int) (a b : Tr) : Tr → Prop
  | nul : (a.root.op = noOf op ∨ b.root.op = noOf op) → Bt op a b (.leaf ⟨noOf op, 0⟩)
  | right : a.root.op = yesOf op → Bt op a b b
  | left : (b.root.op = yesOf op ∨ a = b) → Bt op a b a
  | opp (x y z : Nd) : x.op = 3 → y.op = 3 → y.n = x.n → z.op = 4 → ((a = .leaf x ∧ b = .un z (.leaf y)) ∨ (b = .leaf x ∧ a = .un z (.leaf y))) → Bt op a b (.leaf ⟨noOf op, 0⟩)
  | inb (x : Nd) (l r : Tr) : b = .bin x l r → x.op = dualOf op → (l = a ∨ r = a) → Bt op a b a
  | ina (x : Nd) (l r : Tr) : a = .bin x l r → x.op = dualOf op → (l = b ∨ r = b) → Bt op a b b
  | nxt (x y : Nd) (c d : Tr) : a = .un x c → b = .un y d → x.op = 8 → y.op = 8 → Bt op a b (.un ⟨8, 0⟩ (.bin ⟨op, 0⟩ c d))
  | keep : Bt op a b (.bin ⟨op, 0⟩ a b)
theorem dual_takes (op : Int) : takes (dualOf op) = 2 := by unfold dualOf; split <;> rfl
theorem bothT_bt {op : Int} {a b : Tr} (ha : a.ok) (hb : b.ok) : Bt op a b (bothT op a b) := by
  unfold bothT
  split
  · rename_i h; exact .nul h
  split
  · rename_i h; exact .right h
  split
  · rename_i h
    exact .left (h.imp id (fun h => flat_inj ha hb h))
  split
  · rename_i h
    obtain ⟨n, x, y, z, h1, h2, h3, h4, h5, h6⟩ := otherL_flat ha hb h
    exact .opp x y z h1 h3 (h4.trans h2.symm) h5 h6
  split
  · rename_i h
    obtain ⟨x, l, r, e, hx, hlr⟩ := hasL_flat hb (dual_takes op) h
    subst e
    exact .inb x l r rfl hx (hlr.imp (fun h => flat_inj hb.2.1 ha h) (fun h => flat_inj hb.2.2 ha h))
  split
  · rename_i h
    obtain ⟨x, l, r, e, hx, hlr⟩ := hasL_flat ha (dual_takes op) h
    subst e
    exact .ina x l r rfl hx (hlr.imp (fun h => flat_inj ha.2.1 hb h) (fun h => flat_inj ha.2.2 hb h))
  split
  · rename_i h
    have e1 := (root_un ha (by rw [h.1]; rfl)).1
    have e2 := (root_un hb (by rw [h.2]; rfl)).1
    exact .nxt _ _ _ _ e1 e2 h.1 h.2
  · exact .keep
inductive Lt (op : Int) (a b : Tr) : Tr → Prop
  | bare : (b.root.op = 1 ∨ b.root.op = 2) → Lt op a b b
  | easy : a.root.op = easyOf op → Lt op a b b
  | same : a = b → Lt op a b b
  | inn (x : Nd) (r : Tr) : b = .bin x a r → x.op = op → Lt op a b b
  | keep : Lt op a b (.bin ⟨op, 0⟩ a b)
theorem lastT_lt {op : Int} {a b : Tr} (ha : a.ok) (hb : b.ok) (ho : op = 9 ∨ op = 10) : Lt op a b (lastT op a b) := by
  unfold lastT
  split
  · rename_i h
    rcases h with h | h | h
    · simp only [bareL, opL_flat, Bool.or_eq_true, beq_iff_eq] at h; exact .bare h
    · exact .easy h
    · exact .same (flat_inj ha hb h)
  split
  · rename_i h
    obtain ⟨h1, h2⟩ := h
    have ht : takes op = 2 := by rcases ho with rfl | rfl <;> rfl
    obtain ⟨l, r, e, hl, _⟩ := root_bin hb (by rw [h1]; exact ht)
    rw [e] at hb h2
    rw [partsL_bin hb] at h2
    obtain rfl := flat_inj hl ha h2
    exact .inn _ r e h1
  · exact .keep
end Go.Proofs.YtamhjgkigjpbhaaDoor

/- (XSimpQ) Formulas, made smaller: what holds of what is left. Plain. -/
namespace Go.Proofs.YtamhjgkigjpbhaaDoor

def Fine (t : Tr) : Prop := t.ok ∧ t.nnf ∧ t.clean
theorem fine_un {x : Nd} {a : Tr} (h : Fine (.un x a)) : Fine a := by
  obtain ⟨⟨h1, h2⟩, h3, h4, h5⟩ := h
  refine ⟨h2, ?_, h5⟩
  rcases h3 with ⟨_, h⟩ | ⟨_, p, rfl, _⟩
  · exact h
  · trivial
theorem fine_bin {x : Nd} {a b : Tr} (h : Fine (.bin x a b)) : Fine a ∧ Fine b := by
  obtain ⟨⟨h1, h2, h2'⟩, ⟨_, h3, h3'⟩, h4, h5, h5'⟩ := h
  exact ⟨⟨h2, h3, h5⟩, ⟨h2', h3', h5'⟩⟩
theorem fine_mk {op : Int} {a b : Tr} (ho : op = 5 ∨ op = 6 ∨ op = 9 ∨ op = 10) (ha : Fine a) (hb : Fine b) : Fine (.bin ⟨op, 0⟩ a b) := by
  refine ⟨⟨?_, ha.1, hb.1⟩, ⟨ho, ha.2.1, hb.2.1⟩, rfl, ha.2.2, hb.2.2⟩
  rcases ho with rfl | rfl | rfl | rfl <;> rfl
theorem fine_next {a : Tr} (ha : Fine a) : Fine (.un ⟨8, 0⟩ a) := ⟨⟨rfl, ha.1⟩, .inl ⟨rfl, ha.2.1⟩, rfl, ha.2.2⟩
theorem fine_const {op : Int} (h : op = 1 ∨ op = 2) : Fine (.leaf ⟨op, 0⟩) := by
  rcases h with rfl | rfl <;> exact ⟨⟨rfl, fun h => by simp at h⟩, trivial, .inr rfl⟩
theorem no_const (op : Int) : noOf op = 1 ∨ noOf op = 2 := by unfold noOf; split <;> simp
theorem no_not (op : Int) : noOf op ≠ 3 ∧ noOf op ≠ 8 := by unfold noOf; split <;> decide

/-- Of what is left: where its propositions and its nexts come from. -/
def From (l r : List Nd) : Prop := (∀ x ∈ r, x.op = 3 → x ∈ l) ∧ (∀ x ∈ r, x.op = 8 → ∃ y ∈ l, y.op = 8)
theorem From.refl (l : List Nd) : From l l := ⟨fun _ h _ => h, fun x h h8 => ⟨x, h, h8⟩⟩
theorem From.trans {l m r : List Nd} (h : From l m) (k : From m r) : From l r :=
  ⟨fun x hx h3 => h.1 x (k.1 x hx h3) h3, fun x hx h8 => by obtain ⟨y, hy, h8'⟩ := k.2 x hx h8; exact h.2 y hy h8'⟩
theorem From.sub {l r : List Nd} (h : ∀ x ∈ r, x.op = 3 ∨ x.op = 8 → x ∈ l) : From l r :=
  ⟨fun x hx h3 => h x hx (.inl h3), fun x hx h8 => ⟨x, h x hx (.inr h8), h8⟩⟩
theorem From.app {l l' r r' : List Nd} (h : From l r) (h' : From l' r') (x y : Nd) (hy : y.op ≠ 3) (hxy : y.op = 8 → x.op = 8) : From (l ++ (l' ++ [x])) (r ++ (r' ++ [y])) := by
  refine ⟨fun z hz h3 => ?_, fun z hz h8 => ?_⟩
  · simp only [List.mem_append, List.mem_singleton] at hz ⊢
    rcases hz with hz | hz | rfl
    · exact .inl (h.1 z hz h3)
    · exact .inr (.inl (h'.1 z hz h3))
    · exact absurd h3 hy
  · simp only [List.mem_append, List.mem_singleton] at hz ⊢
    rcases hz with hz | hz | rfl
    · obtain ⟨y, hy, e⟩ := h.2 z hz h8; exact ⟨y, .inl hy, e⟩
    · obtain ⟨y, hy, e⟩ := h'.2 z hz h8; exact ⟨y, .inr (.inl hy), e⟩
    · exact ⟨x, .inr (.inr rfl), hxy h8⟩

theorem bt_fine {op : Int} {a b r : Tr} (h : Bt op a b r) (ho : op = 5 ∨ op = 6) (ha : Fine a) (hb : Fine b) : Fine r := by
  have ho' : op = 5 ∨ op = 6 ∨ op = 9 ∨ op = 10 := by omega
  cases h with
  | nul _ => exact fine_const (no_const op)
  | right _ => exact hb
  | left _ => exact ha
  | opp => exact fine_const (no_const op)
  | inb => exact ha
  | ina => exact hb
  | nxt x y c d e1 e2 => subst e1; subst e2; exact fine_next (fine_mk ho' (fine_un ha) (fine_un hb))
  | keep => exact fine_mk ho' ha hb
theorem bt_size {op : Int} {a b r : Tr} (h : Bt op a b r) : r.size ≤ a.size + b.size + 1 ∧ (r.size = a.size + b.size + 1 → r = .bin ⟨op, 0⟩ a b) := by
  have := a.size_pos
  have := b.size_pos
  cases h with
  | nul _ => simp only [Tr.size]; exact ⟨by omega, fun h => by omega⟩
  | right _ => exact ⟨by omega, fun h => by omega⟩
  | left _ => exact ⟨by omega, fun h => by omega⟩
  | opp => simp only [Tr.size]; exact ⟨by omega, fun h => by omega⟩
  | inb => exact ⟨by omega, fun h => by omega⟩
  | ina => exact ⟨by omega, fun h => by omega⟩
  | nxt x y c d e1 e2 => subst e1; subst e2; simp only [Tr.size]; exact ⟨by omega, fun h => by omega⟩
  | keep => exact ⟨Nat.le_refl _, fun _ => rfl⟩
theorem bt_from {op : Int} {a b r : Tr} (h : Bt op a b r) (ho : op = 5 ∨ op = 6) : From (a.flat ++ b.flat) r.flat := by
  have hn := no_not op
  cases h with
  | nul _ => exact From.sub (fun x hx h => by simp [Tr.flat] at hx; subst hx; exact absurd h (by simp only [not_or]; exact hn))
  | right _ => exact From.sub (fun x hx _ => List.mem_append_right _ hx)
  | left _ => exact From.sub (fun x hx _ => List.mem_append_left _ hx)
  | opp => exact From.sub (fun x hx h => by simp [Tr.flat] at hx; subst hx; exact absurd h (by simp only [not_or]; exact hn))
  | inb => exact From.sub (fun x hx _ => List.mem_append_left _ hx)
  | ina => exact From.sub (fun x hx _ => List.mem_append_right _ hx)
  | nxt x y c d e1 e2 hx hy =>
    subst e1; subst e2
    refine ⟨fun z hz h3 => ?_, fun z hz h8 => ⟨x, by simp [Tr.flat], hx⟩⟩
    simp only [Tr.flat, List.mem_append, List.mem_singleton] at hz ⊢
    rcases hz with (hz | hz | rfl) | rfl
    · exact .inl (.inl hz)
    · exact .inr (.inl hz)
    · dsimp only at h3; omega
    · simp at h3
  | keep =>
    refine From.sub (fun x hx h => ?_)
    simp only [Tr.flat, List.mem_append, List.mem_singleton] at hx ⊢
    rcases hx with hx | hx | rfl
    · exact .inl hx
    · exact .inr hx
    · dsimp only at h; omega

section
variable {bits : Int → Nat → Bool} {n lp : Nat}
theorem sat_leaf {op m : Int} {i : Nat} (h : op = 1 ∨ op = 2) (hi : i < n) : sat bits n lp (.leaf ⟨op, m⟩) i = decide (op = 1) := by
  rcases h with rfl | rfl
  · rw [sat_true hi]; rfl
  · rw [sat_false hi]; rfl
theorem root_const {t : Tr} (h : t.ok) {op : Int} (ht : t.root.op = op) (h12 : op = 1 ∨ op = 2) : ∃ m, t = .leaf ⟨op, m⟩ := by
  have e := root_leaf h (by rw [ht]; rcases h12 with rfl | rfl <;> rfl)
  generalize t.root = x at *
  obtain ⟨o, m⟩ := x
  dsimp only at ht
  subst ht
  exact ⟨m, e⟩
theorem sat_two {op m : Int} {a b : Tr} {i : Nat} (ho : op = 5 ∨ op = 6) (hi : i < n) : sat bits n lp (.bin ⟨op, m⟩ a b) i = if op = 6 then (sat bits n lp a i || sat bits n lp b i) else (sat bits n lp a i && sat bits n lp b i) := by
  rcases ho with rfl | rfl
  · rw [sat_and hi]; rfl
  · rw [sat_or hi]; rfl
theorem bt_sat {op : Int} {a b r : Tr} (h : Bt op a b r) (ho : op = 5 ∨ op = 6) (ha : a.ok) (hb : b.ok) (hlp : lp < n) {i : Nat} (hi : i < n) : sat bits n lp r i = sat bits n lp (.bin ⟨op, 0⟩ a b) i := by
  rw [sat_two ho hi]
  have hy : yesOf op = 1 ∨ yesOf op = 2 := by unfold yesOf; split <;> simp
  cases h with
  | nul h =>
    rw [sat_leaf (no_const op) hi]
    rcases h with h | h
    · obtain ⟨m, rfl⟩ := root_const ha h (no_const op)
      rw [sat_leaf (no_const op) hi]
      rcases ho with rfl | rfl <;> simp [noOf]
    · obtain ⟨m, rfl⟩ := root_const hb h (no_const op)
      rw [sat_leaf (no_const op) hi]
      rcases ho with rfl | rfl <;> simp [noOf]
  | right h =>
    obtain ⟨m, rfl⟩ := root_const ha h hy
    rw [sat_leaf hy hi]
    rcases ho with rfl | rfl <;> simp [yesOf]
  | left h =>
    rcases h with h | rfl
    · obtain ⟨m, rfl⟩ := root_const hb h hy
      rw [sat_leaf hy hi]
      rcases ho with rfl | rfl <;> simp [yesOf]
    · simp
  | opp x y z h1 h2 h3 h4 h =>
    obtain ⟨xo, xn⟩ := x
    obtain ⟨yo, yn⟩ := y
    obtain ⟨zo, zn⟩ := z
    dsimp only at h1 h2 h3 h4
    subst h1; subst h2; subst h3; subst h4
    rw [sat_leaf (no_const op) hi]
    rcases h with ⟨rfl, rfl⟩ | ⟨rfl, rfl⟩ <;> rw [sat_not hi, sat_prop hi] <;> rcases ho with rfl | rfl <;> simp [noOf]
  | inb x l r e hx h =>
    obtain ⟨xo, xn⟩ := x
    dsimp only at hx
    subst hx; subst e
    rw [sat_two (by unfold dualOf; split <;> simp) hi]
    rcases ho with rfl | rfl <;> rcases h with rfl | rfl <;> simp [dualOf] <;> cases sat bits n lp l i <;> simp
  | ina x l r e hx h =>
    obtain ⟨xo, xn⟩ := x
    dsimp only at hx
    subst hx; subst e
    rw [sat_two (by unfold dualOf; split <;> simp) hi]
    rcases ho with rfl | rfl <;> rcases h with rfl | rfl <;> simp [dualOf] <;> cases sat bits n lp l i <;> simp
  | nxt x y c d e1 e2 h1 h2 =>
    obtain ⟨xo, xn⟩ := x
    obtain ⟨yo, yn⟩ := y
    dsimp only at h1 h2
    subst h1; subst h2; subst e1; subst e2
    rw [sat_next hi, sat_two ho (nx_lt hlp), sat_next hi, sat_next hi]
  | keep => rw [sat_two ho hi]

theorem lt_fine {op : Int} {a b r : Tr} (h : Lt op a b r) (ho : op = 9 ∨ op = 10) (ha : Fine a) (hb : Fine b) : Fine r := by
  cases h with
  | keep => exact fine_mk (by omega) ha hb
  | _ => exact hb
theorem lt_size {op : Int} {a b r : Tr} (h : Lt op a b r) : r.size ≤ a.size + b.size + 1 ∧ (r.size = a.size + b.size + 1 → r = .bin ⟨op, 0⟩ a b) := by
  have := a.size_pos
  have := b.size_pos
  cases h with
  | keep => exact ⟨Nat.le_refl _, fun _ => rfl⟩
  | _ => exact ⟨by omega, fun h => by omega⟩
theorem lt_from {op : Int} {a b r : Tr} (h : Lt op a b r) (ho : op = 9 ∨ op = 10) : From (a.flat ++ b.flat) r.flat := by
  cases h with
  | keep =>
    refine From.sub (fun x hx h => ?_)
    simp only [Tr.flat, List.mem_append, List.mem_singleton] at hx ⊢
    rcases hx with hx | hx | rfl
    · exact .inl hx
    · exact .inr hx
    · dsimp only at h; omega
  | _ => exact From.sub (fun x hx _ => List.mem_append_right _ hx)
theorem sat_last {op m : Int} {a b : Tr} (ho : op = 9 ∨ op = 10) (hlp : lp < n) (ha : a.ok) (hb : b.ok) {i : Nat} (hi : i < n) :
    sat bits n lp (.bin ⟨op, m⟩ a b) i = if op = 10 then (sat bits n lp b i && (sat bits n lp a i || sat bits n lp (.bin ⟨op, m⟩ a b) (nx lp n i))) else (sat bits n lp b i || (sat bits n lp a i && sat bits n lp (.bin ⟨op, m⟩ a b) (nx lp n i))) := by
  rcases ho with rfl | rfl
  · exact sat_until hlp ha hi
  · exact sat_rel hlp ha hb hi
theorem lt_sat {op : Int} {a b r : Tr} (h : Lt op a b r) (ho : op = 9 ∨ op = 10) (ha : a.ok) (hb : b.ok) (hlp : lp < n) {i : Nat} (hi : i < n) : sat bits n lp r i = sat bits n lp (.bin ⟨op, 0⟩ a b) i := by
  cases h with
  | bare h =>
    obtain ⟨c, hc, h⟩ : ∃ c, b.root.op = c ∧ (c = 1 ∨ c = 2) := ⟨_, rfl, h⟩
    obtain ⟨m, rfl⟩ := root_const hb hc h
    clear hc
    rcases ho with rfl | rfl
    · rcases h with rfl | rfl
      · rw [sat_until hlp ha hi, sat_true hi]; rfl
      · rw [sat_false hi]
        by_cases hs : sat bits n lp (.bin ⟨9, 0⟩ a (.leaf ⟨2, m⟩)) i = true
        · have := sat_until_least hlp ha (u := fun _ => false) (fun j hj h => by rw [sat_false hj] at h; simp at h) hi hs
          cases this
        · simpa using hs
    · rcases h with rfl | rfl
      · rw [sat_true hi]
        exact (sat_rel_most hlp ha hb (u := fun _ => true) (fun j hj _ => by rw [sat_true hj]; simp) hi rfl).symm
      · rw [sat_rel hlp ha hb hi, sat_false hi]; rfl
  | easy h =>
    have he : easyOf op = 1 ∨ easyOf op = 2 := by unfold easyOf; split <;> simp
    obtain ⟨m, rfl⟩ := root_const ha h he
    rw [sat_last ho hlp ha hb hi, sat_leaf he hi]
    rcases ho with rfl | rfl <;> simp [easyOf]
  | same h =>
    subst h
    rw [sat_last ho hlp ha ha hi]
    rcases ho with rfl | rfl <;> simp <;> cases sat bits n lp a i <;> simp
  | inn x r e hx =>
    obtain ⟨xo, xn⟩ := x
    dsimp only at hx
    subst hx; subst e
    have hr : r.ok := hb.2.2
    rcases ho with rfl | rfl
    · rw [Bool.eq_iff_iff]
      constructor
      · intro h; rw [sat_until hlp ha hi, h]; rfl
      · intro h
        refine sat_until_least hlp ha (u := fun j => sat bits n lp (.bin ⟨9, xn⟩ a r) j) (fun j hj h => ?_) hi h
        rw [Bool.or_eq_true, Bool.and_eq_true] at h
        rcases h with h | ⟨h1, h2⟩
        · exact h
        · show sat bits n lp _ j = true
          rw [sat_until hlp ha hj, h1, h2]; simp
    · rw [Bool.eq_iff_iff]
      constructor
      · intro h
        refine sat_rel_most hlp ha hb (u := fun j => sat bits n lp (.bin ⟨10, xn⟩ a r) j) (fun j hj h => ?_) hi h
        show (sat bits n lp _ j && (_ || _)) = true
        rw [h]
        show (true && (sat bits n lp a j || sat bits n lp (.bin ⟨10, xn⟩ a r) (nx lp n j))) = true
        have h' : sat bits n lp (.bin ⟨10, xn⟩ a r) j = true := h
        rw [sat_rel hlp ha hr hj] at h'
        revert h'
        cases sat bits n lp r j <;> simp
      · intro h
        rw [sat_rel hlp ha hb hi] at h
        rw [Bool.and_eq_true] at h
        exact h.1
  | keep => rfl
/-- The until's truth lies in its parts' truths alone. -/
theorem sat_cong {x y : Nd} {a b a' b' : Tr} (hx : y.op = x.op) (hn : x.op ≠ 3) (h1 : val bits n lp a = val bits n lp a') (h2 : val bits n lp b = val bits n lp b') : val bits n lp (.bin x a b) = val bits n lp (.bin y a' b') := by
  show placesL bits n lp x _ _ = placesL bits n lp y _ _
  rw [h1, h2]
  obtain ⟨xo, xn⟩ := x
  obtain ⟨yo, yn⟩ := y
  dsimp only at hx hn
  subst hx
  have hp : ∀ u v, place1 (bits xn) ⟨yo, xn⟩ n lp u v = place1 (bits yn) ⟨yo, yn⟩ n lp u v := by intro u v; funext i; simp [place1, hn]
  simp only [placesL, hp]
theorem sat_cong1 {x y : Nd} {a a' : Tr} (hx : y.op = x.op) (hn : x.op ≠ 3) (h1 : val bits n lp a = val bits n lp a') : val bits n lp (.un x a) = val bits n lp (.un y a') := by
  show placesL bits n lp x _ _ = placesL bits n lp y _ _
  rw [h1]
  obtain ⟨xo, xn⟩ := x
  obtain ⟨yo, yn⟩ := y
  dsimp only at hx hn
  subst hx
  have hp : ∀ u v, place1 (bits xn) ⟨yo, xn⟩ n lp u v = place1 (bits yn) ⟨yo, yn⟩ n lp u v := by intro u v; funext i; simp [place1, hn]
  simp only [placesL, hp]

theorem nextT_good {a : Tr} (ha : Fine a) : Fine (nextT a) ∧ ((nextT a).size ≤ a.size + 1) ∧ ((nextT a).size = a.size + 1 → nextT a = .un ⟨8, 0⟩ a) ∧ (∀ l, From l a.flat → (∃ y ∈ l, y.op = 8) → From l (nextT a).flat) := by
  unfold nextT
  split
  · exact ⟨ha, by omega, fun h => by omega, fun l h _ => h⟩
  · refine ⟨fine_next ha, Nat.le_refl _, fun _ => rfl, fun l h h8 => ?_⟩
    refine ⟨fun x hx h3 => ?_, fun x hx _ => h8⟩
    simp only [Tr.flat, List.mem_append, List.mem_singleton] at hx
    rcases hx with hx | rfl
    · exact h.1 x hx h3
    · simp at h3
theorem nextT_sat {a : Tr} (ha : a.ok) (hlp : lp < n) {i : Nat} (hi : i < n) : sat bits n lp (nextT a) i = sat bits n lp (.un ⟨8, 0⟩ a) i := by
  unfold nextT
  split
  · rename_i h
    simp only [bareL, opL_flat, Bool.or_eq_true, beq_iff_eq] at h
    obtain ⟨m, e⟩ := root_const ha rfl h
    rw [sat_next hi, e, sat_leaf h hi, sat_leaf h (nx_lt hlp)]
  · rfl

/-- All that holds of what is left. -/
structure Once (t r : Tr) : Prop where
  fine : Fine r
  size : r.size ≤ t.size
  same : r.size = t.size → t.clean → r = t
  from_ : From t.flat r.flat
theorem two_once {op : Int} {a b a' b' r : Tr} (x : Nd) (hx : x.op = op) (ho : op = 5 ∨ op = 6 ∨ op = 9 ∨ op = 10) (ha : Once a a') (hb : Once b b') (hf : Fine r) (hs : r.size ≤ a'.size + b'.size + 1)
    (he : r.size = a'.size + b'.size + 1 → r = .bin ⟨op, 0⟩ a' b') (hfr : From (a'.flat ++ b'.flat) r.flat) : Once (.bin x a b) r := by
  have h1 := ha.size
  have h2 := hb.size
  refine ⟨hf, by simp only [Tr.size]; omega, fun h hc => ?_, ?_⟩
  · simp only [Tr.size] at h
    rw [he (by omega), ha.same (by omega) hc.2.1, hb.same (by omega) hc.2.2]
    have := hc.1
    obtain ⟨xo, xn⟩ := x
    dsimp only at hx this
    subst hx; subst this; rfl
  · refine From.trans ?_ hfr
    refine ⟨fun z hz h3 => ?_, fun z hz h8 => ?_⟩
    · simp only [Tr.flat, List.mem_append] at hz ⊢
      rcases hz with hz | hz
      · exact .inl (ha.from_.1 z hz h3)
      · exact .inr (.inl (hb.from_.1 z hz h3))
    · simp only [Tr.flat, List.mem_append] at hz ⊢
      rcases hz with hz | hz
      · obtain ⟨y, hy, e⟩ := ha.from_.2 z hz h8; exact ⟨y, .inl hy, e⟩
      · obtain ⟨y, hy, e⟩ := hb.from_.2 z hz h8; exact ⟨y, .inr (.inl hy), e⟩
theorem onceT_once : ∀ (t : Tr), t.ok → t.nnf → Once t (onceT t)
  | .leaf x, ⟨h, h3⟩, _ => by
    unfold onceT
    split
    · rename_i e
      exact ⟨⟨⟨h, h3⟩, trivial, .inl e⟩, Nat.le_refl _, fun _ _ => rfl, From.refl _⟩
    · rename_i e
      have h12 : x.op = 1 ∨ x.op = 2 := by rcases takes_zero h with h | h | h <;> simp_all
      refine ⟨fine_const h12, Nat.le_refl _, fun _ hc => ?_, From.sub (fun z hz h => ?_)⟩
      · rcases hc with hc | hc
        · exact absurd hc e
        · obtain ⟨xo, xn⟩ := x; dsimp only at hc; subst hc; rfl
      · simp [Tr.flat] at hz; subst hz; dsimp only at h; omega
  | .un x a, ⟨h, ha⟩, hn => by
    rcases hn with ⟨e, hna⟩ | ⟨e, p, rfl, hp⟩
    · have ih := onceT_once a ha hna
      have hg := nextT_good ih.fine
      rw [onceT, if_neg (by rw [e]; decide)]
      refine ⟨hg.1, by have := ih.size; have := hg.2.1; simp only [Tr.size]; omega, fun h hc => ?_, ?_⟩
      · simp only [Tr.size] at h
        have := ih.size; have := hg.2.1
        rw [hg.2.2.1 (by omega), ih.same (by omega) hc.2]
        have := hc.1
        obtain ⟨xo, xn⟩ := x
        dsimp only at e this
        subst e; subst this; rfl
      · refine hg.2.2.2 _ ?_ ⟨x, by simp [Tr.flat], e⟩
        refine ⟨fun z hz h3 => ?_, fun z hz h8 => ⟨x, by simp [Tr.flat], e⟩⟩
        simp only [Tr.flat, List.mem_append]
        exact .inl (ih.from_.1 z hz h3)
    · have hl : onceT (.leaf p) = .leaf p := by rw [onceT, if_pos hp]
      rw [onceT, if_pos e, hl]
      refine ⟨⟨⟨rfl, ha⟩, .inr ⟨rfl, p, rfl, hp⟩, rfl, .inl hp⟩, Nat.le_refl _, fun _ hc => ?_, From.sub (fun z hz h => ?_)⟩
      · have := hc.1
        obtain ⟨xo, xn⟩ := x
        dsimp only at e this
        subst e; subst this; rfl
      · simp only [Tr.flat, List.mem_append, List.mem_singleton] at hz ⊢
        rcases hz with hz | rfl
        · exact .inl hz
        · dsimp only at h; omega
  | .bin x a b, ⟨h, ha, hb⟩, ⟨ho, hna, hnb⟩ => by
    have i1 := onceT_once a ha hna
    have i2 := onceT_once b hb hnb
    rw [onceT, twoT]
    split
    · rename_i h5
      have hbt := bothT_bt (op := x.op) i1.fine.1 i2.fine.1
      have hs := bt_size hbt
      exact two_once x rfl ho i1 i2 (bt_fine hbt h5 i1.fine i2.fine) hs.1 hs.2 (bt_from hbt h5)
    · rename_i h5
      have h9 : x.op = 9 ∨ x.op = 10 := by omega
      have hbt := lastT_lt i1.fine.1 i2.fine.1 h9
      have hs := lt_size hbt
      exact two_once x rfl ho i1 i2 (lt_fine hbt h9 i1.fine i2.fine) hs.1 hs.2 (lt_from hbt h9)
theorem onceT_val (hlp : lp < n) : ∀ (t : Tr), t.ok → t.nnf → val bits n lp (onceT t) = val bits n lp t
  | .leaf x, ⟨h, h3⟩, _ => by
    unfold onceT
    split
    · rfl
    · rename_i e
      have h12 : x.op = 1 ∨ x.op = 2 := by rcases takes_zero h with h | h | h <;> simp_all
      obtain ⟨xo, xn⟩ := x
      rcases h12 with h12 | h12
      · dsimp only at h12; subst h12; rw [leafT, leafT]
      · dsimp only at h12; subst h12; rw [leafF, leafF]
  | .un x a, ⟨h, ha⟩, hn => by
    rcases hn with ⟨e, hna⟩ | ⟨e, p, rfl, hp⟩
    · have ih := onceT_val hlp a ha hna
      have io := onceT_once a ha hna
      rw [onceT, if_neg (by rw [e]; decide)]
      have h1 : val bits n lp (nextT (onceT a)) = val bits n lp (.un ⟨8, 0⟩ (onceT a)) :=
        sat_ext (nextT_good io.fine).1.1 ⟨rfl, io.fine.1⟩ (fun i hi => nextT_sat io.fine.1 hlp hi)
      rw [h1]
      exact sat_cong1 (by rw [e]) (by decide) ih
    · have hl : onceT (.leaf p) = .leaf p := by rw [onceT, if_pos hp]
      rw [onceT, if_pos e, hl]
      exact sat_cong1 (by rw [e]) (by decide) rfl
  | .bin x a b, ⟨h, ha, hb⟩, ⟨ho, hna, hnb⟩ => by
    have v1 := onceT_val hlp a ha hna
    have v2 := onceT_val hlp b hb hnb
    have i1 := onceT_once a ha hna
    have i2 := onceT_once b hb hnb
    have hok : (Tr.bin ⟨x.op, 0⟩ (onceT a) (onceT b)).ok := ⟨h, i1.fine.1, i2.fine.1⟩
    have hr : val bits n lp (.bin ⟨x.op, 0⟩ (onceT a) (onceT b)) = val bits n lp (.bin x a b) := sat_cong rfl (by dsimp only; omega) v1 v2
    rw [← hr, onceT, twoT]
    split
    · rename_i h5
      have hbt := bothT_bt (op := x.op) i1.fine.1 i2.fine.1
      exact sat_ext (bt_fine hbt h5 i1.fine i2.fine).1 hok (fun i hi => bt_sat hbt h5 i1.fine.1 i2.fine.1 hlp hi)
    · rename_i h5
      have h9 : x.op = 9 ∨ x.op = 10 := by omega
      have hbt := lastT_lt i1.fine.1 i2.fine.1 h9
      exact sat_ext (lt_fine hbt h9 i1.fine i2.fine).1 hok (fun i hi => lt_sat hbt h9 i1.fine.1 i2.fine.1 hlp hi)
end
end Go.Proofs.YtamhjgkigjpbhaaDoor

/- (XSimpR) Formulas, made smaller: the lists of the program are those of the trees, and what the laws ask of them. Plain. -/
namespace Go.Proofs.YtamhjgkigjpbhaaDoor

theorem bothT_flat {op : Int} {a b : Tr} (ha : a.ok) (hb : b.ok) : (bothT op a b).flat = bothL op a.flat b.flat := by
  unfold bothT bothL
  simp only [opL_flat]
  split
  · rfl
  split
  · rfl
  split
  · rfl
  split
  · rfl
  split
  · rfl
  split
  · rfl
  split
  · rename_i h
    have e1 := (root_un ha (by rw [h.1]; rfl)).1
    have e2 := (root_un hb (by rw [h.2]; rfl)).1
    have f1 : a.flat.dropLast = a.sub.flat := by rw [e1, Tr.flat]; simp [Tr.sub]
    have f2 : b.flat.dropLast = b.sub.flat := by rw [e2, Tr.flat]; simp [Tr.sub]
    rw [f1, f2]
    simp [Tr.flat, withL]
  · simp [Tr.flat, withL]
theorem lastT_flat {op : Int} {a b : Tr} : (lastT op a b).flat = lastL op a.flat b.flat := by
  unfold lastT lastL
  simp only [opL_flat]
  split
  · rfl
  split
  · rfl
  · simp [Tr.flat, withL]
theorem twoT_flat {op : Int} {a b : Tr} (ho : op = 5 ∨ op = 6 ∨ op = 9 ∨ op = 10) (ha : a.ok) (hb : b.ok) : (twoT op a b).flat = twoL op a.flat b.flat := by
  unfold twoT twoL
  split
  · exact bothT_flat ha hb
  · rw [if_pos (by omega)]; exact lastT_flat
theorem nextT_flat {a : Tr} : (nextT a).flat = nextL a.flat := by
  unfold nextT nextL
  split
  · rfl
  · simp [Tr.flat, withL]
theorem set_last {α : Type} (l : List α) (a b : α) : (l ++ [a]).set ((l ++ [a]).length - 1) b = l ++ [b] := by
  simp
theorem getD_last {α : Type} (l : List α) (a d : α) : (l ++ [a]).getD ((l ++ [a]).length - 1) d = a := by
  simp [List.getD]
/-- The stack behind a tree's nodes has the tree made smaller on top. -/
theorem ostep_flat : ∀ (t : Tr) (st : List (List Nd)), t.ok → t.nnf → t.flat.foldl ostep st = st ++ [(onceT t).flat]
  | .leaf x, st, ⟨h, _⟩, _ => by
    have h12 := takes_zero h
    simp only [Tr.flat, List.foldl_cons, List.foldl_nil, ostep]
    rw [onceT]
    by_cases e : x.op = 3
    · rw [if_neg (by omega), if_pos e, if_pos e]; rfl
    · rw [if_pos (by omega), if_neg e]; rfl
  | .un x a, st, ⟨h, ha⟩, hn => by
    rcases hn with ⟨e, hna⟩ | ⟨e, p, rfl, hp⟩
    · rw [Tr.flat, List.foldl_append, ostep_flat a st ha hna]
      simp only [List.foldl_cons, List.foldl_nil, ostep]
      rw [if_neg (by omega), if_neg (by omega), if_neg (by omega), if_pos e, set_last, getD_last, onceT, if_neg (by omega), nextT_flat]
    · rw [Tr.flat, List.foldl_append, ostep_flat (.leaf p) st ha trivial]
      simp only [List.foldl_cons, List.foldl_nil, ostep]
      rw [if_neg (by omega), if_neg (by omega), if_pos e, set_last, getD_last, onceT, onceT, if_pos e]
      rfl
  | .bin x a b, st, ⟨h, ha, hb⟩, ⟨ho, hna, hnb⟩ => by
    rw [Tr.flat, List.foldl_append, ostep_flat a st ha hna, List.foldl_append, ostep_flat b _ hb hnb]
    simp only [List.foldl_cons, List.foldl_nil, ostep]
    rw [if_neg (by omega), if_neg (by omega), if_neg (by omega), if_neg (by omega), getD_last, onceT, twoT_flat ho (onceT_once a ha hna).fine.1 (onceT_once b hb hnb).fine.1]
    have e : (st ++ [(onceT a).flat] ++ [(onceT b).flat]).length - 2 = st.length := by simp
    rw [e]
    simp [List.getD]

theorem isN_tree {f : List Nd} (h : isN f = true) : ∃ t : Tr, t.ok ∧ t.nnf ∧ f = t.flat := by
  obtain ⟨t, hok, rfl⟩ := parse (isN_good h)
  exact ⟨t, hok, (isN_flat hok).1 h, rfl⟩
theorem onceL_flat {t : Tr} (h : t.ok) (hn : t.nnf) : onceL t.flat = (onceT t).flat := by
  rw [onceL, if_pos ((isN_flat h).2 hn), ostep_flat t [] h hn]; rfl
theorem onceL_none {f : List Nd} (h : isN f = false) : onceL f = [] := by rw [onceL, h]; rfl

/-- What may be left. -/
def Left (l : List Nd) : Prop := l = [] ∨ ∃ t : Tr, Fine t ∧ l = t.flat
theorem onceL_left (f : List Nd) : Left (onceL f) := by
  by_cases h : isN f = true
  · obtain ⟨t, h1, h2, rfl⟩ := isN_tree h
    rw [onceL_flat h1 h2]
    exact .inr ⟨_, (onceT_once t h1 h2).fine, rfl⟩
  · exact .inl (onceL_none (by simpa using h))
theorem left_step {l : List Nd} (h : Left l) : (onceL l).length ≤ l.length ∧ ((onceL l).length = l.length → onceL l = l) := by
  rcases h with rfl | ⟨t, ⟨h1, h2, h3⟩, rfl⟩
  · rw [onceL_none rfl]; exact ⟨Nat.le_refl _, fun _ => rfl⟩
  · rw [onceL_flat h1 h2, Tr.flat_len, Tr.flat_len]
    have ho := onceT_once t h1 h2
    exact ⟨ho.size, fun h => by rw [ho.same h h3]⟩
def iter : Nat → List Nd → List Nd
  | 0, f => f
  | j + 1, f => onceL (iter j f)
/-- What P26.2 leaves. -/
def IsOf (f g : List Nd) : Prop := (∃ j, g = iter (j + 1) f) ∧ onceL g = g
theorem iter_left (f : List Nd) (j : Nat) : Left (iter (j + 1) f) := onceL_left _
theorem iter_fix {f : List Nd} (h : onceL f = f) : ∀ j, iter j f = f
  | 0 => rfl
  | j + 1 => by rw [iter, iter_fix h j, h]
theorem isOf_fix {f g : List Nd} (h : onceL f = f) (hg : IsOf f g) : g = f := by
  obtain ⟨⟨j, rfl⟩, _⟩ := hg
  exact iter_fix h _
theorem iter_once (f : List Nd) : ∀ j, iter (j + 1) f = iter j (onceL f)
  | 0 => rfl
  | j + 1 => by
    have ih := iter_once f j
    show onceL (iter (j + 1) f) = onceL (iter j (onceL f))
    rw [ih]
theorem isOf_eq {f a g : List Nd} (h : onceL f = a) (ha : onceL a = a) (hg : IsOf f g) : g = a := by
  obtain ⟨⟨j, rfl⟩, _⟩ := hg
  rw [iter_once, h, iter_fix ha]

/-- All that the laws ask of what is left of f. -/
structure Kept (f g : List Nd) : Prop where
  isn : isN g = true
  len : g.length ≤ f.length
  from_ : From f g
  tree : ∀ (bits : Int → Nat → Bool) (n lp : Nat), lp < n → val bits n lp (treeOf g) = val bits n lp (treeOf f)
theorem Kept.refl {f : List Nd} (h : isN f = true) : Kept f f := ⟨h, Nat.le_refl _, From.refl _, fun _ _ _ _ => rfl⟩
theorem Kept.trans {f g k : List Nd} (a : Kept f g) (b : Kept g k) : Kept f k :=
  ⟨b.isn, Nat.le_trans b.len a.len, From.trans a.from_ b.from_, fun bits n lp h => (b.tree bits n lp h).trans (a.tree bits n lp h)⟩
theorem once_kept {f : List Nd} (h : isN f = true) : Kept f (onceL f) := by
  obtain ⟨t, h1, h2, rfl⟩ := isN_tree h
  have ho := onceT_once t h1 h2
  rw [onceL_flat h1 h2]
  refine ⟨(isN_flat ho.fine.1).2 ho.fine.2.1, by rw [Tr.flat_len, Tr.flat_len]; exact ho.size, ho.from_, fun bits n lp hlp => ?_⟩
  rw [treeOf_flat ho.fine.1, treeOf_flat h1]
  exact onceT_val hlp t h1 h2
theorem iter_kept {f : List Nd} (h : isN f = true) : ∀ j, Kept f (iter j f)
  | 0 => Kept.refl h
  | j + 1 => (iter_kept h j).trans (once_kept (iter_kept h j).isn)
theorem of_kept {f g : List Nd} (h : isN f = true) (hg : IsOf f g) : Kept f g ∧ Kept (onceL f) g := by
  obtain ⟨⟨j, rfl⟩, _⟩ := hg
  refine ⟨iter_kept h _, ?_⟩
  rw [iter_once]
  exact iter_kept (once_kept h).isn _
theorem of_none {f g : List Nd} (h : isN f = false) (hg : IsOf f g) : g = [] := by
  have h0 : onceL [] = [] := onceL_none rfl
  exact isOf_eq (onceL_none h) h0 hg

theorem propsF_bit (l : List Nd) (i : Nat) : ∀ u, (l.foldl (fun u (x : Nd) => if x.op = 3 then u ||| 2 ^ x.n.toNat else u) u).testBit i = (u.testBit i || l.any fun (x : Nd) => x.op == 3 && x.n.toNat == i) := by
  induction l with
  | nil => intro u; simp
  | cons x l ih =>
    intro u
    rw [List.foldl_cons, ih, List.any_cons]
    by_cases h : x.op = 3
    · rw [if_pos h, Nat.testBit_or, Nat.testBit_two_pow]
      have e : (x.op == 3) = true := by simp [h]
      rw [e]
      simp only [Bool.true_and, Bool.or_assoc]
      congr 1
    · rw [if_neg h]
      have e : (x.op == 3) = false := by simp [h]
      rw [e]; simp
theorem kept_props {f g : List Nd} (h : isN f = true) (k : Kept f g) : props g &&& props f = props g := by
  rw [props, props, if_pos (isN_good k.isn), if_pos (isN_good h)]
  apply Nat.eq_of_testBit_eq
  intro i
  rw [Nat.testBit_and, propsF, propsF, propsF_bit, propsF_bit]
  simp only [Nat.zero_testBit, Bool.false_or]
  cases e : g.any fun x => x.op == 3 && x.n.toNat == i
  · rfl
  · rw [List.any_eq_true] at e
    obtain ⟨x, hx, e⟩ := e
    rw [Bool.and_eq_true] at e
    have : f.any (fun x => x.op == 3 && x.n.toNat == i) = true := List.any_eq_true.2 ⟨x, k.from_.1 x hx (by simpa using e.1), by rw [e.1, e.2]; rfl⟩
    rw [this]; rfl
theorem kept_next {f g : List Nd} (h : isN f = true) (k : Kept f g) : nextF f = true ∨ nextF g = false := by
  by_cases e : nextF g = true
  · left
    simp only [nextF, Bool.and_eq_true, beq_iff_eq] at e ⊢
    refine ⟨isN_good h, ?_⟩
    have e2 := e.2
    simp only [hasNext, List.any_eq_true, beq_iff_eq] at e2 ⊢
    obtain ⟨x, hx, h8⟩ := e2
    exact k.from_.2 x hx h8
  · exact .inr (by simpa using e)

/-- How long the stack is, and what it holds, on the way. -/
theorem ostep_len {st : List (List Nd)} {x : Nd} (h : takes x.op ≤ (st.length : Int)) (h0 : 0 ≤ takes x.op) (h7 : x.op ≠ 7 ∧ x.op ≠ 11 ∧ x.op ≠ 12) : (ostep st x).length = st.length - (takes x.op).toNat + 1 := by
  have hb := takes_bd x.op
  have ht : takes x.op = 0 ∨ takes x.op = 1 ∨ takes x.op = 2 := by omega
  rcases ht with ht | ht | ht
  · have h3 := takes_zero ht
    unfold ostep
    rw [ht]
    rcases h3 with h3 | h3 | h3
    · rw [if_pos (.inl h3)]; simp
    · rw [if_pos (.inr h3)]; simp
    · rw [if_neg (by omega), if_pos h3]; simp
  · have h3 := takes_one ht
    unfold ostep
    rw [ht] at h ⊢
    rcases h3 with h3 | h3 | h3 | h3
    · rw [if_neg (by omega), if_neg (by omega), if_pos h3]; simp; omega
    · rw [if_neg (by omega), if_neg (by omega), if_neg (by omega), if_pos h3]; simp; omega
    · exact absurd h3 h7.2.1
    · exact absurd h3 h7.2.2
  · have h3 := takes_two ht
    unfold ostep
    rw [ht] at h ⊢
    rw [if_neg (by omega), if_neg (by omega), if_neg (by omega), if_neg (by omega)]
    simp
end Go.Proofs.YtamhjgkigjpbhaaDoor
