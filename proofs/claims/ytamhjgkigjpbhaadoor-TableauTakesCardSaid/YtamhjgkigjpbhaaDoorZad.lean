/- Texts that stand one behind the other, in one file. -/
import Derived.Test.YtamhjgkigjpbhaaDoorZac
import Derived.Test.YtamhjgkigjpbhaaDoorMa
import Derived.Test.YtamhjgkigjpbhaaDoorProg
import Derived.OwnWalk

/- Fixpoints over a graph: the greatest one. Plain. -/
namespace Go.Proofs.YtamhjgkigjpbhaaDoor

theorem SubB.refl (z : List Bool) : SubB z z := fun _ h => h
theorem SubB.trans {x y z : List Bool} (h : SubB x y) (k : SubB y z) : SubB x z := fun i a => k i (h i a)
/-- One round. -/
def roundZ (E : List (List Nd)) (asks : List (Nat → Bool)) (z : List Bool) : List Bool := asks.foldl (stepZ E) z
theorem roundZ_len (E : List (List Nd)) : ∀ (asks : List (Nat → Bool)) (z : List Bool), (roundZ E asks z).length = z.length
  | [], _ => rfl
  | p :: l, z => by
    show (roundZ E l (stepZ E z p)).length = _
    rw [roundZ_len E l, stepZ_len]
theorem roundZ_sub {E : List (List Nd)} : ∀ (asks : List (Nat → Bool)) {z : List Bool}, z.length = E.length → SubB (roundZ E asks z) z
  | [], _, _ => SubB.refl _
  | p :: l, z, hz => (roundZ_sub l (z := stepZ E z p) (by rw [stepZ_len]; exact hz)).trans (step_sub hz)
/-- What each step keeps. -/
def Fixd (E : List (List Nd)) (asks : List (Nat → Bool)) (z : List Bool) : Prop := ∀ p ∈ asks, SubB z (stepZ E z p)
theorem roundZ_inv {E : List (List Nd)} {y : List Bool} (hy : y.length = E.length) : ∀ (asks : List (Nat → Bool)) {z : List Bool}, z.length = E.length → Fixd E asks y → SubB y z → SubB y (roundZ E asks z)
  | [], _, _, _, h => h
  | p :: l, z, hz, hf, h => roundZ_inv hy l (z := stepZ E z p) (by rw [stepZ_len]; exact hz) (fun q hq => hf q (List.mem_cons_of_mem _ hq))
      ((hf p (List.mem_cons_self ..)).trans (step_mono hy hz h (fun _ a => a)))
theorem roundZ_fix {E : List (List Nd)} : ∀ (asks : List (Nat → Bool)) {z : List Bool}, z.length = E.length → SubB z (roundZ E asks z) → Fixd E asks z
  | [], _, _, _ => fun _ h => by cases h
  | p :: l, z, hz, h => by
    have h1 : SubB (roundZ E l (stepZ E z p)) (stepZ E z p) := roundZ_sub l (by rw [stepZ_len]; exact hz)
    have h2 : SubB z (stepZ E z p) := h.trans h1
    have h3 : stepZ E z p = z := sub_anti (stepZ_len _ _ _) (step_sub hz) h2
    intro q hq
    rcases List.mem_cons.1 hq with rfl | hq
    · exact h2
    · refine roundZ_fix l hz ?_ q hq
      have : roundZ E (p :: l) z = roundZ E l z := by
        show roundZ E l (stepZ E z p) = _
        rw [h3]
      rw [← this]; exact h
/-- The greatest one. -/
def Gfp (E : List (List Nd)) (asks : List (Nat → Bool)) (z : List Bool) : Prop := z.length = E.length ∧ Fixd E asks z ∧ ∀ y : List Bool, y.length = E.length → Fixd E asks y → SubB y z
/-- What is under way: nothing that must stay is lost. -/
def GInv (E : List (List Nd)) (asks : List (Nat → Bool)) (z : List Bool) : Prop := z.length = E.length ∧ ∀ y : List Bool, y.length = E.length → Fixd E asks y → SubB y z
theorem GInv.start (E : List (List Nd)) (asks : List (Nat → Bool)) : GInv E asks (List.replicate E.length true) :=
  ⟨by simp, fun y hy _ i hi => by
    have := getD_lt hi
    simp only [List.getD]
    rw [List.getElem?_replicate, if_pos (by omega)]; rfl⟩
theorem GInv.round {E : List (List Nd)} {asks : List (Nat → Bool)} {z : List Bool} (h : GInv E asks z) : GInv E asks (roundZ E asks z) :=
  ⟨by rw [roundZ_len]; exact h.1, fun y hy hf => roundZ_inv hy asks h.1 hf (h.2 y hy hf)⟩
theorem GInv.done {E : List (List Nd)} {asks : List (Nat → Bool)} {z : List Bool} (h : GInv E asks z) (hs : SubB z (roundZ E asks z)) : Gfp E asks z := ⟨h.1, roundZ_fix asks h.1 hs, h.2⟩
/-- How many are left. -/
def cntB (z : List Bool) : Nat := z.countP (fun b => b)
theorem cntB_le (z : List Bool) : cntB z ≤ z.length := List.countP_le_length
end Go.Proofs.YtamhjgkigjpbhaaDoor

/- Automata with several sets, and what they take: as the document has it, by a greatest fixpoint over the nodes at a word's places; plain. -/
namespace Go.Proofs.YtamhjgkigjpbhaaDoor

/-- A node of an automaton. -/
structure ANd where
  need : Nat
  ban : Nat
  inn : Nat
  to : List Int
def ANd.none : ANd := ⟨0, 0, 0, []⟩
/-- An automaton. -/
structure Aut where
  sets : Int
  init : List Int
  nodes : List ANd
/-- Does a node read a set? -/
def rdsB (x : ANd) (S : Nat) : Bool := decide (x.need &&& S = x.need) && decide (x.ban &&& S = 0)
/-- All that is led to is there. -/
def Aut.Ok (a : Aut) : Prop := (∀ i ∈ a.init, isNd a.nodes.length i = true) ∧ ∀ x ∈ a.nodes, ∀ t ∈ x.to, isNd a.nodes.length t = true
def Aut.at (a : Aut) (q : Nat) : ANd := a.nodes.getD q ANd.none
/-- The edges of a node at a place: to nodes at the next one. -/
def prodR (a : Aut) (W : List Nat) (lp q k : Nat) : List Nd :=
  if rdsB (a.at q) (W.getD k 0) = true then ((a.at q).to.filter (fun t => rdsB (a.at t.toNat) (W.getD (nx lp W.length k) 0))).map (fun t => ⟨t * (W.length : Int) + ((nx lp W.length k : Nat) : Int), 0⟩) else []
/-- The graph of the nodes at the places. -/
def prodE (a : Aut) (W : List Nat) (lp : Nat) : List (List Nd) := (List.range (a.nodes.length * W.length)).map (fun m => prodR a W lp (m / W.length) (m % W.length))
/-- What is to be met again and again; n: how many of the graph's nodes stand for one. -/
def asksA (a : Aut) (n : Nat) : List (Nat → Bool) := (fun _ => true) :: (List.range a.sets.toNat).map (fun i m => (a.at (m / n)).inn.testBit i)
/-- Is a word taken, by a set of nodes at places? -/
def takesZ (a : Aut) (W : List Nat) (z : List Bool) : Prop := ∃ q : Nat, (q : Int) ∈ a.init ∧ rdsB (a.at q) (W.getD 0 0) = true ∧ z.getD (q * W.length) false = true

section
variable {a : Aut} {W : List Nat} {lp : Nat}
theorem prodE_len (a : Aut) (W : List Nat) (lp : Nat) : (prodE a W lp).length = a.nodes.length * W.length := by simp [prodE]
theorem idx_lt {q k N n : Nat} (hq : q < N) (hk : k < n) : q * n + k < N * n := by
  have : (q + 1) * n ≤ N * n := Nat.mul_le_mul_right _ hq
  rw [Nat.succ_mul] at this; omega
theorem idx_div {q k n : Nat} (hk : k < n) : (q * n + k) / n = q ∧ (q * n + k) % n = k := by
  constructor
  · rw [Nat.mul_comm, Nat.mul_add_div (by omega), Nat.div_eq_of_lt hk, Nat.add_zero]
  · rw [Nat.mul_comm, Nat.mul_add_mod, Nat.mod_eq_of_lt hk]
theorem prodE_at {q k : Nat} (hq : q < a.nodes.length) (hk : k < W.length) : (prodE a W lp).getD (q * W.length + k) [] = prodR a W lp q k := by
  have h := idx_lt hq hk
  obtain ⟨h1, h2⟩ := idx_div (q := q) hk
  simp [prodE, List.getD, h, h1, h2]
/-- An edge of the graph. -/
theorem ed_prod (hA : a.Ok) (hlp : lp < W.length) {z : List Bool} {q k j : Nat} (hq : q < a.nodes.length) (hk : k < W.length) (hz : z.length = a.nodes.length * W.length) :
    Ed (prodE a W lp) z (q * W.length + k) j ↔ ∃ q' : Nat, q' < a.nodes.length ∧ j = q' * W.length + nx lp W.length k ∧ z.getD (q * W.length + k) false = true ∧ z.getD j false = true ∧ (q' : Int) ∈ (a.at q).to ∧
      rdsB (a.at q) (W.getD k 0) = true ∧ rdsB (a.at q') (W.getD (nx lp W.length k) 0) = true := by
  have hix := idx_lt hq hk
  have hnx : nx lp W.length k < W.length := nx_lt hlp
  unfold Ed
  rw [prodE_len, prodE_at hq hk, hz]
  constructor
  · rintro ⟨_, _, h3, h4, h5⟩
    unfold prodR at h5
    split at h5
    · next hr =>
      simp only [tgts, List.mem_map] at h5
      obtain ⟨e, ⟨t, ht, rfl⟩, hj⟩ := h5
      obtain ⟨ht1, ht2⟩ := List.mem_filter.1 ht
      have hn : a.at q ∈ a.nodes := by
        unfold Aut.at; rw [List.getD_eq_getElem?_getD, List.getElem?_eq_getElem hq]; exact List.getElem_mem hq
      obtain ⟨q', rfl, hq'⟩ := isNd_nat (hA.2 _ hn t ht1)
      dsimp only at hj
      rw [Int.toNat_natCast] at ht2
      refine ⟨q', hq', ?_, h3, h4, ht1, hr, ht2⟩
      have : ((q' * W.length + nx lp W.length k : Nat) : Int) = (j : Int) := by rw [← hj]; simp
      omega
    · simp [tgts] at h5
  · rintro ⟨q', hq', rfl, h3, h4, h5, h6, h7⟩
    refine ⟨hix, idx_lt hq' hnx, h3, h4, ?_⟩
    unfold prodR
    rw [if_pos h6]
    simp only [tgts, List.mem_map]
    refine ⟨⟨(q' : Int) * (W.length : Int) + ((nx lp W.length k : Nat) : Int), 0⟩, ⟨(q' : Int), List.mem_filter.2 ⟨h5, by rw [Int.toNat_natCast]; exact h7⟩, rfl⟩, by simp⟩
end
end Go.Proofs.YtamhjgkigjpbhaaDoor

/- What is wrong first with an automaton (layer 30's document); plain. -/
namespace Go.Proofs.YtamhjgkigjpbhaaDoor

def chkNd (N : Nat) (s : Int) (x : ANd) : Int := if x.to.all (isNd N) = true then (if x.inn >>> s.toNat = 0 then 0 else 3) else 10
def chkNds (N : Nat) (s : Int) : List ANd → Int
  | [] => 0
  | x :: r => if chkNd N s x = 0 then chkNds N s r else chkNd N s x
/-- The document's Check. -/
def chkA (a : Aut) : Int := if 256 < a.nodes.length ∨ 16 < a.sets then 11 else if a.sets < 0 then 10 else if a.init.all (isNd a.nodes.length) = true then chkNds a.nodes.length a.sets a.nodes else 10
theorem chkNds_ok {N : Nat} {s : Int} : ∀ {l : List ANd}, (∀ x ∈ l, chkNd N s x = 0) → chkNds N s l = 0
  | [], _ => rfl
  | x :: r, h => by
    unfold chkNds
    rw [if_pos (h x (by simp))]
    exact chkNds_ok (fun y hy => h y (by simp [hy]))
theorem chkNds_at {N : Nat} {s : Int} : ∀ {l : List ANd} {i : Nat} (hi : i < l.length), (∀ x ∈ l.take i, chkNd N s x = 0) → chkNd N s l[i] ≠ 0 → chkNds N s l = chkNd N s l[i]
  | x :: r, 0, _, _, hx => by
    unfold chkNds
    rw [if_neg (by simpa using hx)]; rfl
  | x :: r, i + 1, hi, h, hx => by
    unfold chkNds
    rw [if_pos (h x (by simp))]
    simp only [List.getElem_cons_succ] at hx ⊢
    exact chkNds_at (by simpa using hi) (fun y hy => h y (by simp [hy])) hx
theorem chkA_zero {a : Aut} (h1 : a.nodes.length ≤ 256) (h2 : 0 ≤ a.sets ∧ a.sets ≤ 16) (h3 : a.Ok) (h4 : ∀ x ∈ a.nodes, x.inn < 2 ^ a.sets.toNat) : chkA a = 0 := by
  unfold chkA
  rw [if_neg (by omega), if_neg (by omega), if_pos (List.all_eq_true.2 (fun i hi => h3.1 i hi))]
  refine chkNds_ok (fun x hx => ?_)
  unfold chkNd
  rw [if_pos (List.all_eq_true.2 (fun t ht => h3.2 x hx t ht)), if_pos (by rw [Nat.shiftRight_eq_div_pow]; exact Nat.div_eq_of_lt (h4 x hx))]
theorem all_takeS {α : Type} {l : List α} {P : α → Prop} {i : Nat} (hi : i < l.length) (h : ∀ x ∈ l.take i, P x) (hx : P l[i]) : ∀ x ∈ l.take (i + 1), P x := by
  intro x hm
  rw [take_snoc l i hi] at hm
  rcases List.mem_append.1 hm with hm | hm
  · exact h x hm
  · rw [List.mem_singleton] at hm; subst hm; exact hx
end Go.Proofs.YtamhjgkigjpbhaaDoor

/- Rows of bools and of sets in memory: filled place by place, and rows of such rows. -/
namespace Go.Proofs.YtamhjgkigjpbhaaDoor
open Go.RowKit

def bcells (l : List Bool) : List Value := l.map .bool
theorem bcells_len (l : List Bool) : (bcells l).length = l.length := by simp [bcells]
theorem bcells_one (l : List Bool) : ∀ u ∈ bcells l, u.oneCell' = true := by
  intro u hu
  obtain ⟨b, _, rfl⟩ := List.mem_map.1 hu
  rfl
theorem bcells_at {l : List Bool} {i : Nat} (h : i < l.length) : (bcells l)[i]? = some (.bool (l.getD i false)) := by simp [bcells, List.getD, h]
theorem sliceBool : SliceT Tryd.prog 73 4 1 1 :=
  SliceT.mk (z := .bool false) Tryd.underlying73 (by kernel_rfl) (by decide) (by decide)
theorem infoBool : (Tryd.prog.info? 4).map (fun i => (i.zero, i.size, i.bytes)) = some (some (.bool false), 1, 1) := by kernel_rfl
def ucells (l : List Int) : List Value := l.map (.int .u64)
/-- A row of n, filled as far as k. -/
def upto (n : Nat) (F : Nat → Bool) (k : Nat) : List Bool := (List.range n).map fun j => if j < k then F j else false
theorem upto_zero (n : Nat) (F : Nat → Bool) : upto n F 0 = List.replicate n false := by
  apply List.ext_getElem <;> simp [upto]
theorem upto_end (n : Nat) (F : Nat → Bool) : upto n F n = (List.range n).map F :=
  List.map_congr_left (fun i hi => by rw [if_pos (List.mem_range.1 hi)])
theorem upto_len (n : Nat) (F : Nat → Bool) (k : Nat) : (upto n F k).length = n := by simp [upto]
theorem upto_false {n : Nat} {F : Nat → Bool} {k : Nat} (h : F k = false) : upto n F (k + 1) = upto n F k := by
  refine List.map_congr_left (fun i _ => ?_)
  by_cases e : i = k
  · subst e; simp [h]
  · by_cases h1 : i < k
    · rw [if_pos h1, if_pos (by omega)]
    · rw [if_neg h1, if_neg (by omega)]
theorem upto_set {n : Nat} {F : Nat → Bool} {k : Nat} {b : Bool} (h : F k = b) : bcells (upto n F (k + 1)) = (bcells (upto n F k)).set k (.bool b) := by
  apply List.ext_getElem
  · simp [bcells, upto]
  · intro i h1 h2
    simp only [bcells, upto, List.getElem_map, List.getElem_range, List.getElem_set]
    by_cases e : k = i
    · subst e; simp [h]
    · rw [if_neg e]
      by_cases h1 : i < k
      · rw [if_pos h1, if_pos (by omega)]
      · rw [if_neg h1, if_neg (by omega)]
/-- What a round of a loop that fills a row of its own has and may do. -/
structure Fill (w wr : World) (g n : Nat) (F : Nat → Bool) (k : Nat) : Prop where
  own : wr.ownsRow w.heap.size 4 1 (.slice (some ⟨g, 0, none⟩) n n) n (bcells (upto n F k))
  bel : Below w.heap.size w wr
theorem Fill.cell {w wr : World} {g n : Nat} {F : Nat → Bool} {k : Nat} (h : Fill w wr g n F k) (hk : k < n) : ∃ u, wr.cell? ⟨g, k, none⟩ = some u ∧ wr.frozen? ⟨g, k, none⟩ = false := by
  have hcl := h.own.cellAt k (by omega)
  rw [List.getElem?_eq_getElem (by rw [bcells_len, upto_len]; omega)] at hcl
  exact ⟨_, hcl, h.own.frozenAt k⟩
theorem Fill.skip {w wr : World} {g n : Nat} {F : Nat → Bool} {k : Nat} (h : Fill w wr g n F k) (hf : F k = false) : Fill w wr g n F (k + 1) := ⟨by rw [upto_false hf]; exact h.own, h.bel⟩
theorem Fill.lt {w wr : World} {g n : Nat} {F : Nat → Bool} {k : Nat} (h : Fill w wr g n F k) : w.heap.size ≤ g ∧ g < wr.heap.size := h.own.lt g (by simp [Value.ownBlock])
theorem Fill.put {w wr : World} {g n : Nat} {F : Nat → Bool} {k : Nat} (h : Fill w wr g n F k) {b : Bool} (hf : F k = b) : Fill w (wr.setCell ⟨g, k, none⟩ (.bool b)) g n F (k + 1) :=
  ⟨by rw [upto_set hf]; exact (h.own.stored k (.bool b)).1, h.bel.trans ((Tch.of_grown (h.own.stored k (.bool b)).2).below h.bel.size (fun j hj e => by cases e; have := h.lt; omega))⟩
theorem Fill.drew {w wr : World} {g n : Nat} {F : Nat → Bool} {k : Nat} (h : Fill w wr g n F k) : Fill w wr.drew g n F k := ⟨h.own, ⟨h.bel.os, h.bel.tape, h.bel.output, h.bel.size, h.bel.block⟩⟩
theorem ucells_at {l : List Int} {i : Nat} (h : i < l.length) : (ucells l)[i]? = some (.int .u64 (l.getD i 0)) := by simp [ucells, List.getD, h]
theorem sliceRows : SliceT Tryd.prog 75 73 1 24 :=
  SliceT.mk (z := .slice none 0 0) Tryd.underlying75 (by kernel_rfl) (by decide) (by decide)
theorem Sl.drew {w : World} {B size n c : Nat} {A : Option Addr} {xs : List Value} (h : Sl w B size A n c xs) : Sl w.drew B size A n c xs := { h with rd := h.rd }
/-- Rows of bools, each a row of its own, made since w. -/
def Grid (w w' : World) (v : Value) (R : List (List Bool)) : Prop :=
  ∃ vs : List Value, w'.ownsRow w.heap.size 73 1 v R.length vs ∧ (∀ (j : Nat) (r : List Bool), R[j]? = some r → ∃ u, vs[j]? = some u ∧ w'.ownsRow w.heap.size 4 1 u r.length (bcells r)) ∧ Below w.heap.size w w'
def GridPost (w : World) (R : List (List Bool)) (en : Ending) (w' : World) : Prop := ∃ v, en = .returned v ∧ Grid w w' v R
theorem Grid.base {w w0 w' : World} {v : Value} {R : List (List Bool)} (h : Grid w0 w' v R) (hb : Below w.heap.size w w0) : Grid w w' v R := by
  obtain ⟨vs, h1, h2, h3⟩ := h
  exact ⟨vs, own_base h1 hb.size, fun j r hj => by obtain ⟨u, hu, ho⟩ := h2 j r hj; exact ⟨u, hu, own_base ho hb.size⟩, hb.trans (h3.mono hb.size)⟩
theorem Grid.nil (w : World) : Grid w w (.slice none 0 0) [] := ⟨[], World.ownsRow_nil w _ _ _, by simp, Below.refl _ _⟩
theorem Grid.below {w w1 w2 : World} {v : Value} {R : List (List Bool)} (h : Grid w w1 v R) (hb : Below w1.heap.size w1 w2) : Grid w w2 v R := by
  obtain ⟨vs, h1, h2, h3⟩ := h
  exact ⟨vs, own_below h1 hb, fun j r hj => by obtain ⟨u, hu, ho⟩ := h2 j r hj; exact ⟨u, hu, own_below ho hb⟩, h3.trans (hb.mono h3.size)⟩
/-- A row is read. -/
theorem Grid.row {w w1 : World} {v : Value} {R : List (List Bool)} (h : Grid w w1 v R) {j : Nat} {r : List Bool} (hj : R[j]? = some r) :
    ∃ b o A c n cap, v = .slice (some ⟨b, o, none⟩) n cap ∧ n = R.length ∧ w1.cell? ⟨b, o + j, none⟩ = some (.slice A r.length c) ∧ Sl w1 w1.heap.size 1 A r.length c (bcells r) := by
  obtain ⟨vs, h1, h2, h3⟩ := h
  obtain ⟨u, hu, ho⟩ := h2 j r hj
  obtain ⟨A, c, rfl, hs⟩ := own_sl ho
  obtain ⟨A0, c0, rfl, hs0⟩ := own_sl h1
  obtain ⟨b, o, rfl, _, hc⟩ := hs0.rd.at_ hu
  exact ⟨b, o, A, c, _, c0, rfl, rfl, hc, hs⟩
/-- A row more. -/
theorem Grid.push {w w1 w2 : World} {v v' u : Value} {R : List (List Bool)} {r : List Bool} (h : Grid w w1 v R) (hu : w1.ownsRow w.heap.size 4 1 u r.length (bcells r)) {vs : List Value}
    (hv : w1.ownsRow w.heap.size 73 1 v R.length vs) (hown : w2.ownsRow w.heap.size 73 1 v' (R.length + 1) (vs ++ [u])) (ht : Tch (fun k => v.ownBlock = some k) w1 w2)
    (hvs : ∀ (j : Nat) (r : List Bool), R[j]? = some r → ∃ u, vs[j]? = some u ∧ w1.ownsRow w.heap.size 4 1 u r.length (bcells r)) : Grid w w2 v' (R ++ [r]) := by
  have hb := h.choose_spec.2.2
  have hlen : vs.length = R.length := by rw [hv.1]; simp
  have hkeep : ∀ u' (n : Nat) xs, w1.ownsRow w.heap.size 4 1 u' n xs → w2.ownsRow w.heap.size 4 1 u' n xs := fun u' n xs ho =>
    own_tch ho ht (fun g hg hg' => own_ne ho hv (by decide) g hg hg')
  refine ⟨vs ++ [u], by simpa using hown, fun j r' hj => ?_, hb.trans (ht.below hb.size (fun g hg h => by have := (hv.lt g h).1; omega))⟩
  by_cases hlt : j < R.length
  · rw [List.getElem?_append_left hlt] at hj
    obtain ⟨u', hu', ho⟩ := hvs j r' hj
    exact ⟨u', by rw [List.getElem?_append_left (by omega)]; exact hu', hkeep _ _ _ ho⟩
  · have hj' : j = R.length := by
      have := (List.getElem?_eq_some_iff.1 hj).1
      simp at this; omega
    subst hj'
    rw [List.getElem?_append_right (Nat.le_refl _)] at hj
    simp at hj
    subst hj
    exact ⟨u, by rw [List.getElem?_append_right (by omega), hlen]; simp, hkeep _ _ _ hu⟩
theorem below_undrew {B : Nat} {w w' : World} (h : Below B w.drew w') : Below B w w' := ⟨h.os, h.tape, h.output, h.size, h.block⟩
theorem Grid.form {w w1 : World} {v : Value} {R : List (List Bool)} (h : Grid w w1 v R) (hR : 0 < R.length) : ∃ g cap, v = .slice (some ⟨g, 0, none⟩) R.length cap := by
  obtain ⟨vs, h1, _⟩ := h
  obtain ⟨g, cap, hv, _⟩ := own_form h1 hR
  exact ⟨g, cap, hv⟩
theorem Grid.cellAt {w w1 : World} {g n cap : Nat} {R : List (List Bool)} (h : Grid w w1 (.slice (some ⟨g, 0, none⟩) n cap) R) {j : Nat} {r : List Bool} (hj : R[j]? = some r) :
    ∃ A c, w1.cell? ⟨g, j, none⟩ = some (.slice A r.length c) ∧ Sl w1 w1.heap.size 1 A r.length c (bcells r) := by
  obtain ⟨vs, h1, h2, h3⟩ := h
  obtain ⟨u, hu, ho⟩ := h2 j r hj
  have hc0 := h1.cells (g := g) rfl j u hu
  have hadd : (⟨g, 0, none⟩ : Addr).add j = ⟨g, j, none⟩ := by
    unfold Addr.add
    split
    · rename_i h; subst h; rfl
    · simp
  rw [hadd] at hc0
  obtain ⟨A, c, rfl, hs⟩ := own_sl ho
  exact ⟨A, c, hc0, hs⟩
end Go.Proofs.YtamhjgkigjpbhaaDoor

/- The ways to make parts of a formula true (layer 28), as lists of bools; plain. -/
namespace Go.Proofs.YtamhjgkigjpbhaaDoor

/-- A way under way. -/
structure Way where
  need : Nat
  ban : Nat
  now : List Bool
  next : List Bool
  todo : List Nat
/-- What a way says at its end: need, ban, next, now. -/
abbrev Cov := Nat × Nat × List Bool × List Bool
def Way.cov (w : Way) : Cov := (w.need, w.ban, w.next, w.now)
def Way.with_ (w : Way) (l : List Nat) : Way := { w with todo := l ++ w.todo }
def Way.owing (w : Way) (j : Nat) : Way := { w with next := w.next.set j true }
def Way.made (w : Way) (j : Nat) (t : List Nat) : Way := { w with now := w.now.set j true, todo := t }
def finW (w : Way) : List Way := if w.need &&& w.ban = 0 then [w] else []
def opAt (f : List Nd) (j : Nat) : Int := (f.getD j ⟨0, 0⟩).op
def nAt (f : List Nd) (j : Nat) : Nat := (f.getD j ⟨0, 0⟩).n.toNat
def leftOf (f : List Nd) (j : Nat) : Nat := (kids f j).1.toNat
def rightOf (f : List Nd) (j : Nat) : Nat := (kids f j).2.toNat
/-- The ways that a part's making true leads to. -/
def splitW (f : List Nd) (j : Nat) (w : Way) : List Way :=
  if opAt f j = 1 then [w]
  else if opAt f j = 3 then finW { w with need := w.need ||| 2 ^ nAt f j }
  else if opAt f j = 4 then finW { w with ban := w.ban ||| 2 ^ nAt f (j - 1) }
  else if opAt f j = 5 then [w.with_ [leftOf f j, rightOf f j]]
  else if opAt f j = 6 then [w.with_ [leftOf f j], w.with_ [rightOf f j]]
  else if opAt f j = 8 then [w.owing (leftOf f j)]
  else if opAt f j = 9 then [w.with_ [rightOf f j], (w.with_ [leftOf f j]).owing j]
  else if opAt f j = 10 then [w.with_ [leftOf f j, rightOf f j], (w.with_ [rightOf f j]).owing j]
  else []
def skipL (now : List Bool) (l : List Nat) : List Nat := l.dropWhile (fun j => now.getD j false)
/-- The ends of all ways, in order; n: how many parts may be taken yet, and one. -/
def leaves (f : List Nd) : Nat → Way → List Way
  | 0, _ => []
  | n + 1, w =>
    match skipL w.now w.todo with
    | [] => [w]
    | j :: t => (splitW f j (w.made j t)).flatMap (leaves f n)
def addC (out : List Cov) (c : Cov) : List Cov := if c ∈ out then out else out ++ [c]
def onceC (l : List Cov) (out : List Cov) : List Cov := l.foldl addC out
def startW (n : Nat) (parts : List Nat) : Way := ⟨0, 0, List.replicate n false, List.replicate n false, parts⟩
def coversL (f : List Nd) (parts : List Nat) : List Cov := onceC ((leaves f (f.length + 1) (startW f.length parts)).map Way.cov) []
/-- How many are not true yet. -/
def cntF (l : List Bool) : Nat := l.countP (! ·)
theorem cntF_set {l : List Bool} {j : Nat} (hj : j < l.length) (h : l.getD j false = false) : cntF (l.set j true) + 1 = cntF l := by
  unfold cntF
  have e : l[j] = false := by simpa [List.getD, hj] using h
  rw [List.countP_set hj]
  have hp : 0 < l.countP (! ·) := List.countP_pos_iff.2 ⟨l[j], List.getElem_mem hj, by rw [e]; rfl⟩
  rw [e]
  simp
  omega
theorem skip_head {now : List Bool} {l : List Nat} {j : Nat} {t : List Nat} (h : skipL now l = j :: t) : now.getD j false = false ∧ j ∈ l ∧ ∀ x ∈ t, x ∈ l := by
  have hs : ∀ x ∈ skipL now l, x ∈ l := fun x hx => (List.dropWhile_suffix _).subset hx
  refine ⟨?_, hs j (by rw [h]; simp), fun x hx => hs x (by rw [h]; simp [hx])⟩
  have := List.head?_dropWhile_not (fun j => now.getD j false) l
  unfold skipL at h
  rw [h] at this
  simpa using this
theorem skip_nil {now : List Bool} {l : List Nat} (h : skipL now l = []) : ∀ x ∈ l, now.getD x false = true := by
  induction l with
  | nil => intro x hx; cases hx
  | cons y r ih =>
    unfold skipL at h ih
    rw [List.dropWhile_cons] at h
    split at h
    · rename_i e
      intro x hx
      rcases List.mem_cons.1 hx with rfl | hx
      · exact e
      · exact ih h x hx
    · cases h
/-- What a way's parts are. -/
structure WOk (f : List Nd) (w : Way) : Prop where
  now : w.now.length = f.length
  next : w.next.length = f.length
  todo : ∀ j ∈ w.todo, j < f.length
/-- The kids of a formula lie ahead. -/
def KidsOk (f : List Nd) : Prop := ∀ j, j < f.length → (opAt f j = 5 ∨ opAt f j = 6 ∨ opAt f j = 9 ∨ opAt f j = 10 → leftOf f j < j ∧ rightOf f j < j) ∧ (opAt f j = 8 → leftOf f j < j)
theorem split_ok {f : List Nd} (hk : KidsOk f) {j : Nat} (hj : j < f.length) {w : Way} (h : WOk f w) : ∀ x ∈ splitW f j w, WOk f x ∧ x.now = w.now := by
  obtain ⟨k2, k1⟩ := hk j hj
  intro x hx
  have fin : ∀ v : Way, WOk f v → v.now = w.now → x ∈ finW v → WOk f x ∧ x.now = w.now := by
    intro v hv hn hx
    unfold finW at hx
    split at hx
    · rw [List.mem_singleton] at hx; subst hx; exact ⟨hv, hn⟩
    · cases hx
  have wi : ∀ (v : Way) (l : List Nat), WOk f v → (∀ y ∈ l, y < f.length) → WOk f (v.with_ l) := fun v l hv hl =>
    ⟨hv.now, hv.next, fun y hy => by rcases List.mem_append.1 hy with hy | hy; exact hl y hy; exact hv.todo y hy⟩
  have ow : ∀ (v : Way) (i : Nat), WOk f v → WOk f (v.owing i) := fun v i hv => ⟨hv.now, by simp [Way.owing, hv.next], hv.todo⟩
  unfold splitW at hx
  split at hx
  · rw [List.mem_singleton] at hx; subst hx; exact ⟨h, rfl⟩
  split at hx
  · exact fin { w with need := w.need ||| 2 ^ nAt f j } ⟨h.now, h.next, h.todo⟩ rfl hx
  split at hx
  · exact fin { w with ban := w.ban ||| 2 ^ nAt f (j - 1) } ⟨h.now, h.next, h.todo⟩ rfl hx
  split at hx
  · rename_i e
    have := k2 (.inl e)
    rw [List.mem_singleton] at hx; subst hx
    exact ⟨wi _ _ h (fun y hy => by simp at hy; omega), rfl⟩
  split at hx
  · rename_i e
    have := k2 (.inr (.inl e))
    simp only [List.mem_cons, List.not_mem_nil, or_false] at hx
    rcases hx with rfl | rfl
    · exact ⟨wi _ _ h (fun y hy => by simp at hy; omega), rfl⟩
    · exact ⟨wi _ _ h (fun y hy => by simp at hy; omega), rfl⟩
  split at hx
  · rename_i e
    rw [List.mem_singleton] at hx; subst hx
    exact ⟨ow _ _ h, rfl⟩
  split at hx
  · rename_i e
    have := k2 (.inr (.inr (.inl e)))
    simp only [List.mem_cons, List.not_mem_nil, or_false] at hx
    rcases hx with rfl | rfl
    · exact ⟨wi _ _ h (fun y hy => by simp at hy; omega), rfl⟩
    · exact ⟨ow _ _ (wi _ _ h (fun y hy => by simp at hy; omega)), rfl⟩
  split at hx
  · rename_i e
    have := k2 (.inr (.inr (.inr e)))
    simp only [List.mem_cons, List.not_mem_nil, or_false] at hx
    rcases hx with rfl | rfl
    · exact ⟨wi _ _ h (fun y hy => by simp at hy; omega), rfl⟩
    · exact ⟨ow _ _ (wi _ _ h (fun y hy => by simp at hy; omega)), rfl⟩
  · cases hx
theorem made_ok {f : List Nd} {w : Way} (h : WOk f w) {j : Nat} {t : List Nat} (hs : skipL w.now w.todo = j :: t) : WOk f (w.made j t) ∧ cntF (w.made j t).now + 1 = cntF w.now ∧ j < f.length := by
  obtain ⟨h1, h2, h3⟩ := skip_head hs
  have hj := h.todo j h2
  exact ⟨⟨by simp [Way.made, h.now], h.next, fun y hy => h.todo y (h3 y hy)⟩, cntF_set (by rw [h.now]; exact hj) h1, hj⟩
/-- Induction over the ways from one on. -/
theorem way_ind {f : List Nd} (hk : KidsOk f) (P : Way → Way → Prop) (leaf : ∀ w, WOk f w → skipL w.now w.todo = [] → P w w)
    (step : ∀ w j t x y, WOk f w → skipL w.now w.todo = j :: t → x ∈ splitW f j (w.made j t) → WOk f x → P x y → P w y) :
    ∀ n w, WOk f w → ∀ y ∈ leaves f n w, P w y := by
  intro n
  induction n with
  | zero => intro w _ y hy; cases hy
  | succ n ih =>
    intro w hw y hy
    unfold leaves at hy
    cases hs : skipL w.now w.todo with
    | nil => rw [hs] at hy; rw [List.mem_singleton] at hy; subst hy; exact leaf _ hw hs
    | cons j t =>
      rw [hs] at hy
      obtain ⟨x, hx, hy⟩ := List.mem_flatMap.1 hy
      obtain ⟨hm, _, hj⟩ := made_ok hw hs
      have hxo := (split_ok hk hj hm x hx).1
      exact step w j t x y hw hs hx hxo (ih x hxo y hy)
end Go.Proofs.YtamhjgkigjpbhaaDoor
