/- What tableau.Of holds in memory (layer 29). -/
import Derived.Test.YtamhjgkigjpbhaaDoorZao
import Derived.Test.YtamhjgkigjpbhaaDoorTbS
import Derived.Test.YtamhjgkigjpbhaaDoorZas
import Derived.Test.YtamhjgkigjpbhaaDoorZat
import Derived.Test.YtamhjgkigjpbhaaDoorZau
namespace Go.Proofs.YtamhjgkigjpbhaaDoor
open Go.RowKit Go.Maps

/-- A cover of n nodes whose numbers are told in two letters. -/
structure CovOk (n : Nat) (c : Cov) : Prop where
  txt : CovTxt c
  l1 : c.2.2.1.length = n
  l2 : c.2.2.2.length = n
/-- What a cover says, as a key. -/
def kS (c : Cov) : Lit := .string (strOfNums (saidS c)).data.toList
theorem byte_inj {a b : Int} (ha : 0 ≤ a ∧ a ≤ 255) (hb : 0 ≤ b ∧ b ≤ 255) (h : UInt8.ofNat a.toNat = UInt8.ofNat b.toNat) : a = b := by
  have := congrArg UInt8.toNat h
  rw [UInt8.toNat_ofNat', UInt8.toNat_ofNat'] at this
  omega
theorem bytes_inj : ∀ {l m : List Int}, (∀ x ∈ l, 0 ≤ x ∧ x ≤ 255) → (∀ x ∈ m, 0 ≤ x ∧ x ≤ 255) → bytesI l = bytesI m → l = m
  | [], [], _, _, _ => rfl
  | [], _ :: _, _, _, h => by simp [bytesI] at h
  | _ :: _, [], _, _, h => by simp [bytesI] at h
  | a :: l, b :: m, hl, hm, h => by
    simp only [bytesI, List.map_cons, List.cons.injEq] at h
    rw [byte_inj (hl a (by simp)) (hm b (by simp)) h.1, bytes_inj (fun x hx => hl x (List.mem_cons_of_mem _ hx)) (fun x hx => hm x (List.mem_cons_of_mem _ hx)) h.2]
theorem said_range {c : Cov} (h : CovTxt c) : ∀ x ∈ saidS c, 0 ≤ x ∧ x ≤ 255 := by
  intro x hx
  unfold saidS at hx
  simp only [List.mem_append, List.mem_cons] at hx
  rcases hx with h1 | rfl | h1 | rfl | h1 | rfl | h1
  · exact (hex_no h.need).2.2 x h1
  · omega
  · exact (hex_no h.ban).2.2 x h1
  · omega
  · exact (nums_no h.next).2 x h1
  · omega
  · exact (nums_no h.now).2 x h1
theorem onL_inj {l m : List Bool} (hl : l.length = m.length) (h : onL l = onL m) : l = m := by
  refine List.ext_getElem hl (fun i h1 h2 => ?_)
  have e : (i ∈ onL l) ↔ (i ∈ onL m) := by rw [h]
  rw [onL_mem, onL_mem] at e
  have e1 : l.getD i false = l[i] := by simp [List.getD, h1]
  have e2 : m.getD i false = m[i] := by simp [List.getD, h2]
  rw [e1, e2] at e
  exact Bool.eq_iff_iff.2 e
theorem kS_inj {n : Nat} {c d : Cov} (hc : CovOk n c) (hd : CovOk n d) (h : kS c = kS d) : c = d := by
  unfold kS at h
  injection h with h
  have hs : saidS c = saidS d := bytes_inj (said_range hc.txt) (said_range hd.txt) (by simpa [strOf_bytes] using h)
  obtain ⟨h1, h2, h3, h4⟩ := said_parts hc.txt hd.txt hs
  obtain ⟨a, b, x, y⟩ := c
  obtain ⟨a', b', x', y'⟩ := d
  have e3 : x = x' := onL_inj (hc.l1.trans hd.l1.symm) h3
  have e4 : y = y' := onL_inj (hc.l2.trans hd.l2.symm) h4
  simp only at h1 h2
  rw [h1, h2, e3, e4]
theorem said_len {n : Nat} {c : Cov} (hc : CovOk n c) (hn : n ≤ 1000) : (saidS c).length ≤ 10000 := by
  have a := nums_len (onL c.2.2.1)
  have b := nums_len (onL c.2.2.2)
  have a2 := onL_len c.2.2.1
  have b2 := onL_len c.2.2.2
  have h1 : (hexL c.1).length ≤ 2 := by unfold hexL; split <;> simp
  have h2 : (hexL c.2.1).length ≤ 2 := by unfold hexL; split <;> simp
  have := hc.l1
  have := hc.l2
  unfold saidS
  simp only [List.length_append, List.length_cons]
  omega
theorem strKeyed : Keyed Tryd.prog 9 := string_keyed Tryd.underlying9
theorem key_kS {n : Nat} {c : Cov} (hc : CovOk n c) (hn : n ≤ 1000) : keyOf Tryd.prog 9 (.string (strOfNums (saidS c))) = some (kS c) :=
  Go.WideMaps.keyOf_string_mk Tryd.underlying9 (by rw [strOfNums_size]; have := said_len hc hn; unfold maxLen; omega)
theorem keyNat {q : Nat} (h : q ≤ 1000000) : keyOf Tryd.prog 3 (.int .i64 (q : Int)) = some (.int .i64 (q : Int)) :=
  keyOf_int_mk Tryd.underlying3 (by rw [Lit.wf, show IntKind.i64.min = -9223372036854775808 from rfl, show IntKind.i64.max = 9223372036854775807 from rfl]; simp; omega)
theorem intKeyed : Keyed Tryd.prog 3 := int_keyed Tryd.underlying3
/-- The numbers of the covers. -/
def NumOk (w : World) (nb n : Nat) (L : List Cov) : Prop :=
  ∃ g, GMap w 9 nb L.length g ∧ ∀ c, CovOk n c → g (kS c) = if c ∈ L then some (.int .i64 (L.idxOf c : Nat)) else none
/-- A slice of numbers that reads, from a block below B. -/
structure TSb (w : World) (B : Nat) (A : Option Addr) (n c : Nat) (xs : List Value) : Prop where
  t : TSl w 3 A n c xs
  lt : ∀ a, A = some a → a.block < B
/-- S names no block of numbers below B. -/
def SpB (S : Nat → Prop) (w : World) (B : Nat) : Prop := ∀ k cs, k < B → w.heap[k]? = some (.cells cs 3 (0, 0)) → ¬ S k
theorem SpB.of {S : Nat → Prop} {w : World} {B : Nat} (h : Spares S w 3) : SpB S w B := fun k cs _ hk => h k cs hk
theorem TSb.keep {S : Nat → Prop} {w w' : World} {B : Nat} {A : Option Addr} {n c : Nat} {xs : List Value} (h : TSb w B A n c xs) (ht : Tch S w w') (hS : SpB S w B) : TSb w' B A n c xs := by
  have hb : ∀ a, A = some a → w'.heap[a.block]? = w.heap[a.block]? := fun a ha => by
    obtain ⟨cs, hc⟩ := h.t.ty a ha
    exact ht.block _ (heap_lt hc) (hS _ _ (h.lt a ha) hc)
  refine ⟨⟨⟨h.t.sl.len, h.t.sl.cap, h.t.sl.max, h.t.sl.nil, ?_⟩, fun a ha => ?_⟩, h.lt⟩
  · rcases h.t.sl.rd with h0 | ⟨b, off, hA, hlt, hc⟩
    · exact .inl h0
    · exact .inr ⟨b, off, hA, Nat.lt_of_lt_of_le hlt ht.size, fun j u hj => (cell_of_blk (hb _ hA)).trans (hc j u hj)⟩
  · obtain ⟨cs, hc⟩ := h.t.ty a ha
    exact ⟨cs, (hb a ha).trans hc⟩
theorem TSb.of {w : World} {A : Option Addr} {n c : Nat} {xs : List Value} (h : TSl w 3 A n c xs) : TSb w w.heap.size A n c xs := ⟨h, fun a ha => by obtain ⟨cs, hc⟩ := h.ty a ha; exact heap_lt hc⟩
theorem TSb.mono {w : World} {B B' : Nat} {A : Option Addr} {n c : Nat} {xs : List Value} (h : TSb w B A n c xs) (hB : B ≤ B') : TSb w B' A n c xs := ⟨h.t, fun a ha => Nat.lt_of_lt_of_le (h.lt a ha) hB⟩
/-- The covers that were not gone on with. -/
def covV (c : Cov) (E1 : Option Addr) (e1 : Nat) (E2 : Option Addr) (e2 : Nat) : Value := .agg #[.int .u64 (c.1 : Int), .int .u64 (c.2.1 : Int), .slice E1 (onL c.2.2.1).length e1, .slice E2 (onL c.2.2.2).length e2]
def CovRd (B : Nat) (w : World) (c : Cov) (E1 : Option Addr) (e1 : Nat) (E2 : Option Addr) (e2 : Nat) : Prop :=
  TSb w B E1 (onL c.2.2.1).length e1 (icells (natI (onL c.2.2.1))) ∧ TSb w B E2 (onL c.2.2.2).length e2 (icells (natI (onL c.2.2.2)))
theorem CovRd.keep {B : Nat} {S : Nat → Prop} {w w' : World} {c : Cov} {E1 E2 : Option Addr} {e1 e2 : Nat} (h : CovRd B w c E1 e1 E2 e2) (ht : Tch S w w') (hi : SpB S w B) : CovRd B w' c E1 e1 E2 e2 := ⟨h.1.keep ht hi, h.2.keep ht hi⟩
def OpnOk (B : Nat) (w : World) (ob p : Nat) (L : List Cov) : Prop :=
  ∃ g, GMap w 3 ob L.length g ∧ ∀ q c, p ≤ q → L[q]? = some c → ∃ E1 e1 E2 e2, g (.int .i64 (q : Int)) = some (covV c E1 e1 E2 e2) ∧ CovRd B w c E1 e1 E2 e2
theorem NumOk.keep {S : Nat → Prop} {w w' : World} {nb n : Nat} {L : List Cov} (h : NumOk w nb n L) (ht : Tch S w w') (hS : ¬ S nb) : NumOk w' nb n L := by
  obtain ⟨g, h1, h2⟩ := h; exact ⟨g, h1.keep ht hS, h2⟩
theorem OpnOk.keep {B : Nat} {S : Nat → Prop} {w w' : World} {ob p : Nat} {L : List Cov} (h : OpnOk B w ob p L) (ht : Tch S w w') (hS : ¬ S ob) (hi : SpB S w B) : OpnOk B w' ob p L := by
  obtain ⟨g, h1, h2⟩ := h
  refine ⟨g, h1.keep ht hS, fun q c hq hc => ?_⟩
  obtain ⟨E1, e1, E2, e2, a, b⟩ := h2 q c hq hc
  exact ⟨E1, e1, E2, e2, a, b.keep ht hi⟩
theorem NumOk.nil {w : World} {nb n : Nat} (h : w.heap[nb]? = some (.map #[] 0)) : NumOk w nb n [] := ⟨_, GMap.of_blk h, fun c _ => by simp⟩
theorem OpnOk.nil {B : Nat} {w : World} {ob p : Nat} (h : w.heap[ob]? = some (.map #[] 0)) : OpnOk B w ob p [] := ⟨_, GMap.of_blk h, fun q c _ hc => by simp at hc⟩
theorem num_put {w : World} {nb n : Nat} {L : List Cov} {g : Lit → Option Value} (hg : ∀ c, CovOk n c → g (kS c) = if c ∈ L then some (.int .i64 (L.idxOf c : Nat)) else none) {c : Cov} (hc : CovOk n c) (hn : c ∉ L)
    (h : ∀ g', PutG g g' (kS c) (.int .i64 (L.length : Nat)) → GMap w 9 nb (L.length + 1) g') : NumOk w nb n (L ++ [c]) := by
  obtain ⟨g', hp⟩ := putG_ex g (kS c) (.int .i64 (L.length : Nat))
  refine ⟨g', by rw [List.length_append]; exact h g' hp, fun d hd => ?_⟩
  by_cases e : d = c
  · subst e
    rw [hp.1, if_pos (by simp), List.idxOf_append, if_neg hn]; simp
  · rw [hp.2 _ (fun h => e (kS_inj hd hc h)), hg d hd]
    by_cases hm : d ∈ L
    · rw [if_pos hm, if_pos (by simp [hm]), List.idxOf_append, if_pos hm]
    · rw [if_neg hm, if_neg (by simp [hm, e])]
theorem opn_put {B : Nat} {w : World} {ob p : Nat} {L : List Cov} {g : Lit → Option Value} (hg : ∀ q c, p ≤ q → L[q]? = some c → ∃ E1 e1 E2 e2, g (.int .i64 (q : Int)) = some (covV c E1 e1 E2 e2) ∧ CovRd B w c E1 e1 E2 e2) {c : Cov} {E1 E2 : Option Addr} {e1 e2 : Nat} (hr : CovRd B w c E1 e1 E2 e2)
    (h : ∀ g', PutG g g' (.int .i64 (L.length : Nat)) (covV c E1 e1 E2 e2) → GMap w 3 ob (L.length + 1) g') : OpnOk B w ob p (L ++ [c]) := by
  obtain ⟨g', hp⟩ := putG_ex g (.int .i64 (L.length : Nat)) (covV c E1 e1 E2 e2)
  refine ⟨g', by rw [List.length_append]; exact h g' hp, fun q d hq hd => ?_⟩
  by_cases e : q < L.length
  · rw [List.getElem?_append_left e] at hd
    rw [hp.2 _ (by simp; omega)]
    exact hg q d hq hd
  · have hql : q = L.length := by
      have := (List.getElem?_eq_some_iff.1 hd).1
      simp at this; omega
    subst hql
    simp at hd
    subst hd
    exact ⟨E1, e1, E2, e2, hp.1, hr⟩
theorem opn_del {B : Nat} {w : World} {ob p : Nat} {L : List Cov} {g : Lit → Option Value} (hg : ∀ q c, p ≤ q → L[q]? = some c → ∃ E1 e1 E2 e2, g (.int .i64 (q : Int)) = some (covV c E1 e1 E2 e2) ∧ CovRd B w c E1 e1 E2 e2)
    (h : ∀ g', DelG g g' (.int .i64 (p : Nat)) → g' (.int .i64 (p : Nat)) = none → GMap w 3 ob L.length g') : OpnOk B w ob (p + 1) L := by
  obtain ⟨g', hp, hp0⟩ := delG_ex g (.int .i64 (p : Nat))
  refine ⟨g', h g' hp hp0, fun q d hq hd => ?_⟩
  rw [hp _ (by simp; omega)]
  exact hg q d (by omega) hd
/-- The nodes that are there, with what those lead to that were gone on with. -/
def NdsAt (B : Nat) (w : World) (xs : List Value) (f : List Nd) (L : List Cov) (rows : List (List Nat)) : Prop :=
  ∀ (k : Nat) (c : Cov), L[k]? = some c → ∃ A cp, xs[k * 4]? = some (.int .u64 (c.1 : Int)) ∧ xs[k * 4 + 1]? = some (.int .u64 (c.2.1 : Int)) ∧ xs[k * 4 + 2]? = some (.int .u64 ((meetsN f (natI (onL c.2.2.2)) : Nat) : Int)) ∧
    xs[k * 4 + 3]? = some (.slice A (rows.getD k []).length cp) ∧ TSb w B A (rows.getD k []).length cp (icells (natI (rows.getD k [])))
theorem NdsAt.keep {B : Nat} {S : Nat → Prop} {w w' : World} {xs : List Value} {f : List Nd} {L : List Cov} {rows : List (List Nat)} (h : NdsAt B w xs f L rows) (ht : Tch S w w') (hi : SpB S w B) : NdsAt B w' xs f L rows := by
  intro k c hk
  obtain ⟨A, cp, e0, e1, e2, e3, t⟩ := h k c hk
  exact ⟨A, cp, e0, e1, e2, e3, t.keep ht hi⟩
theorem tsl_nil (w : World) (t : TypeId) : TSl w t none 0 0 [] := by
  obtain ⟨A, c, hv, h⟩ := TSl.of_own (World.ownsRow_nil w w.heap.size t 1)
  cases hv; exact h
theorem NdsAt.push {B : Nat} {w : World} {xs : List Value} {f : List Nd} {L : List Cov} {rows : List (List Nat)} (h : NdsAt B w xs f L rows) (hl : xs.length = L.length * 4) (hr : rows.length ≤ L.length) (c : Cov) {m : Int} (hm : m = ((meetsN f (natI (onL c.2.2.2)) : Nat) : Int)) :
    NdsAt B w (xs ++ [.int .u64 (c.1 : Int), .int .u64 (c.2.1 : Int), .int .u64 m, .slice none 0 0]) f (L ++ [c]) rows := by
  subst hm
  intro k d hk
  by_cases hlt : k < L.length
  · rw [List.getElem?_append_left hlt] at hk
    obtain ⟨A, cp, e0, e1, e2, e3, t⟩ := h k d hk
    refine ⟨A, cp, ?_, ?_, ?_, ?_, t⟩ <;> (rw [List.getElem?_append_left (by omega)]; assumption)
  · have hkl : k = L.length := by
      have := (List.getElem?_eq_some_iff.1 hk).1
      simp at this; omega
    subst hkl
    simp at hk
    subst hk
    have hr0 : rows.getD L.length [] = [] := by rw [List.getD_eq_getElem?_getD, List.getElem?_eq_none hr]; rfl
    rw [hr0]
    refine ⟨none, 0, ?_, ?_, ?_, ?_, ⟨tsl_nil w _, fun a ha => by cases ha⟩⟩
    · rw [List.getElem?_append_right (by omega), hl, show L.length * 4 - L.length * 4 = 0 by omega]; rfl
    · rw [List.getElem?_append_right (by omega), hl, show L.length * 4 + 1 - L.length * 4 = 1 by omega]; rfl
    · rw [List.getElem?_append_right (by omega), hl, show L.length * 4 + 2 - L.length * 4 = 2 by omega]; rfl
    · rw [List.getElem?_append_right (by omega), hl, show L.length * 4 + 3 - L.length * 4 = 3 by omega]; rfl
theorem NdsAt.setTo {B : Nat} {w : World} {xs : List Value} {f : List Nd} {L : List Cov} {rows : List (List Nat)} (h : NdsAt B w xs f L rows) (hl : xs.length = L.length * 4) (tl : List Nat) {A : Option Addr} {cp : Nat} (ht : TSb w B A tl.length cp (icells (natI tl))) :
    NdsAt B w (xs.set (rows.length * 4 + 3) (.slice A tl.length cp)) f L (rows ++ [tl]) := by
  intro k c hk
  have hkl := (List.getElem?_eq_some_iff.1 hk).1
  obtain ⟨A', cp', e0, e1, e2, e3, t⟩ := h k c hk
  rw [List.getElem?_set_ne (by omega), List.getElem?_set_ne (by omega), List.getElem?_set_ne (by omega)]
  by_cases e : k = rows.length
  · subst e
    have hg : (rows ++ [tl]).getD rows.length [] = tl := by rw [List.getD_eq_getElem?_getD, List.getElem?_append_right (Nat.le_refl _)]; simp
    rw [hg]
    exact ⟨A, cp, e0, e1, e2, by rw [List.getElem?_set_self (by omega)], ht⟩
  · have hg : (rows ++ [tl]).getD k [] = rows.getD k [] := by
      rw [List.getD_eq_getElem?_getD, List.getD_eq_getElem?_getD]
      by_cases hk2 : k < rows.length
      · rw [List.getElem?_append_left hk2]
      · rw [List.getElem?_eq_none (l := rows) (by omega), List.getElem?_eq_none (by simp; omega)]
    rw [hg]
    exact ⟨A', cp', e0, e1, e2, by rw [List.getElem?_set_ne (by omega)]; exact e3, t⟩
/-- All that tableau.Of holds. -/
structure TS (n0 B kb nb ob : Nat) (Af : Option Addr) (cf : Nat) (f : List Nd) (sets : Int) (w : World) (L : List Cov) (p : Nat) (rows : List (List Nat)) (vi vn : Value) : Prop where
  bk : w.heap[kb]? = some (.cells #[.slice Af f.length cf, .map (some nb), .map (some ob), .int .i64 sets, vi, vn] 54 (0, 0))
  num : NumOk w nb f.length L
  opn : OpnOk B w ob p L
  nds : ∃ xs, w.ownsRow n0 43 4 vn L.length xs ∧ NdsAt B w xs f L rows
  oks : ∀ c ∈ L, CovOk f.length c
  rl : rows.length ≤ L.length
  lt : n0 ≤ w.heap.size ∧ n0 ≤ kb ∧ n0 ≤ nb ∧ n0 ≤ ob ∧ nb ≠ ob
  fs : Sl w n0 2 Af f.length cf (ncells f)
section
variable {n0 B kb nb ob : Nat} {Af : Option Addr} {cf : Nat} {f : List Nd} {sets : Int} {w : World} {L : List Cov} {p : Nat} {rows : List (List Nat)} {vi vn : Value}
theorem TS.nb_lt (h : TS n0 B kb nb ob Af cf f sets w L p rows vi vn) : nb < w.heap.size := by obtain ⟨g, h1, _⟩ := h.num; exact h1.lt
theorem TS.ob_lt (h : TS n0 B kb nb ob Af cf f sets w L p rows vi vn) : ob < w.heap.size := by obtain ⟨g, h1, _⟩ := h.opn; exact h1.lt
theorem TS.nb_cells (h : TS n0 B kb nb ob Af cf f sets w L p rows vi vn) {k t : Nat} {cs : Array Value} (hk : w.heap[k]? = some (.cells cs t (0, 0))) : k ≠ nb := by obtain ⟨g, h1, _⟩ := h.num; exact h1.no_cells hk
theorem TS.ob_cells (h : TS n0 B kb nb ob Af cf f sets w L p rows vi vn) {k t : Nat} {cs : Array Value} (hk : w.heap[k]? = some (.cells cs t (0, 0))) : k ≠ ob := by obtain ⟨g, h1, _⟩ := h.opn; exact h1.no_cells hk
theorem own_cells {base e size n : Nat} {v : Value} {xs : List Value} (h : w.ownsRow base e size v n xs) {g : Nat} (hg : v.ownBlock = some g) : ∃ cs, w.heap[g]? = some (.cells cs e (0, 0)) := by
  rcases h.2 with ⟨rfl, _⟩ | ⟨k, cap, cur, rfl, _, hh, _⟩
  · simp [Value.ownBlock] at hg
  · simp [Value.ownBlock] at hg; subst hg; exact ⟨cur, hh⟩
/-- What may turn. -/
def Tk (kb nb ob : Nat) (vn : Value) (k : Nat) : Prop := k = kb ∨ k = nb ∨ k = ob ∨ vn.ownBlock = some k
theorem TS.spares (h : TS n0 B kb nb ob Af cf f sets w L p rows vi vn) {t : TypeId} (h1 : 43 ≠ t) (h2 : 54 ≠ t) : Spares (Tk kb nb ob vn) w t := by
  rintro k cs hk (rfl | rfl | rfl | hv)
  · rw [h.bk] at hk; injection hk with hk; injection hk with _ e; exact h2 e
  · exact h.nb_cells hk rfl
  · exact h.ob_cells hk rfl
  · obtain ⟨xs, ho, _⟩ := h.nds
    exact own_ne_blk ho hk h1 hv
theorem TS.keep {S : Nat → Prop} {w' : World} (h : TS n0 B kb nb ob Af cf f sets w L p rows vi vn) (ht : Tch S w w') (h1 : ¬ S kb) (h2 : ¬ S nb) (h3 : ¬ S ob) (h4 : ∀ g, vn.ownBlock = some g → ¬ S g) (hi : SpB S w B) (h0 : ∀ k, k < n0 → ¬ S k) :
    TS n0 B kb nb ob Af cf f sets w' L p rows vi vn := by
  obtain ⟨xs, ho, hn⟩ := h.nds
  exact ⟨ht.blk h.bk h1, h.num.keep ht h2, h.opn.keep ht h3 hi, ⟨xs, own_tch ho ht h4, hn.keep ht hi⟩, h.oks, h.rl, ⟨Nat.le_trans h.lt.1 ht.size, h.lt.2⟩, h.fs.tch ht h.lt.1 h0⟩
theorem TS.below {w' : World} (h : TS n0 B kb nb ob Af cf f sets w L p rows vi vn) (hb : Below w.heap.size w w') : TS n0 B kb nb ob Af cf f sets w' L p rows vi vn := by
  obtain ⟨xs, ho, _⟩ := h.nds
  have l1 := heap_lt h.bk
  have l2 := h.nb_lt
  have l3 := h.ob_lt
  exact h.keep (Tch.of_below hb) (by omega) (by omega) (by omega) (fun g hg => by have := (ho.lt g hg).2; omega) (SpB.of (spares_new w _)) (fun k hk => by have := h.lt.1; omega)
theorem TS.up {B' : Nat} (h : TS n0 B kb nb ob Af cf f sets w L p rows vi vn) (hB : B ≤ B') : TS n0 B' kb nb ob Af cf f sets w L p rows vi vn := by
  obtain ⟨g, g1, g2⟩ := h.opn
  obtain ⟨xs, ho, hn⟩ := h.nds
  refine ⟨h.bk, h.num, ⟨g, g1, fun q c hq hc => ?_⟩, ⟨xs, ho, fun k c hk => ?_⟩, h.oks, h.rl, h.lt, h.fs⟩
  · obtain ⟨E1, e1, E2, e2, a, b1, b2⟩ := g2 q c hq hc
    exact ⟨E1, e1, E2, e2, a, b1.mono hB, b2.mono hB⟩
  · obtain ⟨A, cp, e0, e1, e2, e3, t⟩ := hn k c hk
    exact ⟨A, cp, e0, e1, e2, e3, t.mono hB⟩
/-- What may turn lies at n0 or above. -/
theorem TS.tk_ge (h : TS n0 B kb nb ob Af cf f sets w L p rows vi vn) {k : Nat} (hk : Tk kb nb ob vn k) : n0 ≤ k := by
  obtain ⟨xs, ho, _⟩ := h.nds
  have := h.lt
  rcases hk with rfl | rfl | rfl | hk
  · omega
  · omega
  · omega
  · exact (ho.lt k hk).1
/-- A cover gets its number. -/
theorem TS.tell {w5 w6 w7 : World} {c : Cov} {vn' : Value} (h : TS n0 B kb nb ob Af cf f sets w L p rows vi vn) (hok : CovOk f.length c) (h5 : Tch (fun k => k = nb ∨ k = ob) w w5) (hn5 : NumOk w5 nb f.length (L ++ [c])) (ho5 : OpnOk B w5 ob p (L ++ [c]))
    (h6 : Below w5.heap.size w5 w6) {xs : List Value} (hxs : w6.ownsRow n0 43 4 vn L.length xs) (hcs : NdsAt B w6 xs f L rows) {m : Int} (hm : m = ((meetsN f (natI (onL c.2.2.2)) : Nat) : Int))
    (ho : w7.ownsRow n0 43 4 vn' (L.length + 1) (xs ++ [.int .u64 (c.1 : Int), .int .u64 (c.2.1 : Int), .int .u64 m, .slice none 0 0])) (h7 : Tch (fun k => vn.ownBlock = some k) w6 w7) (hat : vn'.ownBlock = vn.ownBlock ∨ vn'.ownBlock = some w6.heap.size) :
    TS n0 B kb nb ob Af cf f sets (w7.setCell ⟨kb, 5, none⟩ vn') (L ++ [c]) p rows vi vn' ∧ Tch (Tk kb nb ob vn) w (w7.setCell ⟨kb, 5, none⟩ vn') ∧ ∀ i, vn'.ownBlock = some i → i < w.heap.size → vn.ownBlock = some i := by
  have lk := heap_lt h.bk
  have ln := h.nb_lt
  have lo := h.ob_lt
  have z5 := h5.size
  have z6 := h6.size
  have z7 := h7.size
  have hlt := h.lt
  have bk5 := h5.blk h.bk (by rintro (e | e); exact h.nb_cells h.bk e; exact h.ob_cells h.bk e)
  have bk6 := (Tch.of_below h6).blk bk5 (by omega)
  have bk7 := h7.blk bk6 (own_ne_blk hxs bk6 (by decide))
  have s8 : Tch (fun k => k = kb) w7 (w7.setCell ⟨kb, 5, none⟩ vn') := (Tch.refl (fun k => k = kb) w7).setCell (p := ⟨kb, 5, none⟩) (fun _ => rfl) vn'
  have sp7 : SpB (fun k => vn.ownBlock = some k) w6 B := fun k cs _ hk => own_ne_blk hxs hk (by decide)
  have sp8 : SpB (fun k => k = kb) w7 B := SpB.of (spares_one bk7 (by decide))
  have hnob : ∀ b, b = nb ∨ b = ob → vn.ownBlock ≠ some b := by
    rintro b hb e
    obtain ⟨cs, hc⟩ := own_cells hxs e
    have hn6 := hn5.keep (Tch.of_below h6) (by omega)
    have ho6 := ho5.keep (Tch.of_below h6) (by omega) (SpB.of (spares_new w5 _))
    obtain ⟨g1, a1, _⟩ := hn6
    obtain ⟨g2, a2, _⟩ := ho6
    rcases hb with rfl | rfl
    · exact a1.no_cells hc rfl
    · exact a2.no_cells hc rfl
  have hnk : nb ≠ kb := fun e => h.nb_cells h.bk e.symm
  have hok' : ob ≠ kb := fun e => h.ob_cells h.bk e.symm
  have hvb : ∀ g, vn'.ownBlock = some g → g ≠ kb := fun g hg e => by
    subst e
    obtain ⟨cs, hc⟩ := own_cells ho hg
    rw [bk7] at hc; injection hc with hc; injection hc with _ e; exact absurd e (by decide)
  refine ⟨⟨?_, ?_, ?_, ?_, ?_, ?_, ?_, ?_⟩, ?_, ?_⟩
  · have := heap_setCell_same w7 kb 5 _ _ vn' bk7
    simpa using this
  · exact ((hn5.keep (Tch.of_below h6) (by omega)).keep h7 (hnob nb (.inl rfl))).keep s8 hnk
  · exact ((ho5.keep (Tch.of_below h6) (by omega) (SpB.of (spares_new w5 _))).keep h7 (hnob ob (.inr rfl)) sp7).keep s8 hok' sp8
  · exact ⟨_, by rw [List.length_append]; exact own_tch ho s8 hvb, ((hcs.push hxs.1 h.rl c hm).keep h7 sp7).keep s8 sp8⟩
  · intro d hd
    rcases List.mem_append.1 hd with hd | hd
    · exact h.oks d hd
    · rw [List.mem_singleton.1 hd]; exact hok
  · have := h.rl; rw [List.length_append]; omega
  · have := s8.size
    exact ⟨by omega, hlt.2⟩
  · have f1 := h.fs.tch h5 hlt.1 (fun b hb' e => by rcases e with e | e <;> omega)
    have f2 := f1.below h6 (by omega)
    have f3 := f2.tch h7 (by omega) (fun b hb' e => by have := (hxs.lt b e).1; omega)
    exact f3.tch s8 (by omega) (fun b hb' e => by omega)
  · have t5 : Tch (Tk kb nb ob vn) w w5 := h5.mono (fun i _ e => by rcases e with e | e; exact .inr (.inl e); exact .inr (.inr (.inl e)))
    have t6 : Tch (Tk kb nb ob vn) w w6 := t5.trans (Tch.of_below h6) (fun i hi e => by omega)
    have t7 : Tch (Tk kb nb ob vn) w w7 := t6.trans h7 (fun i _ e => .inr (.inr (.inr e)))
    exact t7.trans s8 (fun i _ e => .inl e)
  · intro i hi hlt
    rcases hat with e | e
    · rw [← e]; exact hi
    · rw [e] at hi; cases hi; omega
end
end Go.Proofs.YtamhjgkigjpbhaaDoor
