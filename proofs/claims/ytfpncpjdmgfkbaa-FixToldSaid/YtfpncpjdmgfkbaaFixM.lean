/- What the search for a lasso holds in memory, and what its map says. -/
import Derived.Test.YtfpncpjdmgfkbaaFx17
import Derived.Maps.OwnSet
namespace Go.Proofs.Ytfpncpjdmgfkbaa
open Go.RowKit Go.Maps

/-- From first nodes a way leads to one that stays just if one of them does; the shortest one is that node. -/
theorem path_some {E : List (List Nd)} {asks : List (Nat → Bool)} {z : List Bool} (h : Gfp E asks z) (init : List Int) :
    (initB z init = false ∧ pathG E.length (farG E.length (turnE E) (goalsG E.length z)) E init = ([], false)) ∨
    (initB z init = true ∧ ∃ x, x ∈ init ∧ hasB z x = true ∧ pathG E.length (farG E.length (turnE E) (goalsG E.length z)) E init = ([x], true)) := by
  have hD : ∀ i : Nat, i < E.length → (0 ≤ (farG E.length (turnE E) (goalsG E.length z)).getD i 0 ↔ z.getD i false = true) := by
    intro i hi
    rw [far_rch (turn_TOk _) (goalsG_ok _ _) hi, rch_lead rfl hi]
    constructor
    · rintro ⟨k, hk, hg, hl⟩
      exact h.lead hl ((goalsG_mem hk).1 hg)
    · intro hz
      exact ⟨i, hi, (goalsG_mem hi).2 hz, .refl _⟩
  have hpath : (pathG E.length (farG E.length (turnE E) (goalsG E.length z)) E init).2 = true → ∃ x, x ∈ init ∧ hasB z x = true ∧ pathG E.length (farG E.length (turnE E) (goalsG E.length z)) E init = ([x], true) := by
    intro h2
    have ht := toldT_of rfl h2
    have hb : ¬ bestG E.length (farG E.length (turnE E) (goalsG E.length z)) init < 0 := by
      intro hb; rw [pathG, if_pos hb] at h2; cases h2
    rcases bestG_ok (n := E.length) (D := farG E.length (turnE E) (goalsG E.length z)) init with h0 | ⟨h1, h2', h3⟩
    · rw [h0] at hb; omega
    · obtain ⟨i, hi, hil⟩ := isNd_nat h1
      have hzi : z.getD i false = true := by
        rw [hi, Int.toNat_natCast] at h2'
        exact (hD i hil).1 h2'
      obtain ⟨x, hx, hxi⟩ := ht.from_
      have hg := ht.gl 0 x hx
      have hp : (pathG E.length (farG E.length (turnE E) (goalsG E.length z)) E init).1[0]? = some (bestG E.length (farG E.length (turnE E) (goalsG E.length z)) init) := by
        rw [pathG, if_neg hb]; exact pathW_head _ _
      rw [hx] at hp
      cases hp
      rw [hi, Int.toNat_natCast, hzi] at hg
      have hl : 1 = (pathG E.length (farG E.length (turnE E) (goalsG E.length z)) E init).1.length := by simpa using hg.symm
      obtain ⟨y, hy⟩ := List.length_eq_one_iff.1 hl.symm
      rw [hy] at hx
      simp at hx
      subst hx
      refine ⟨_, h3, ?_, Prod.ext_iff.2 ⟨hy, h2⟩⟩
      rw [hi, hasB_nat (by rw [h.1]; exact hil)]; exact hzi
  cases hib : initB z init
  · refine .inl ⟨rfl, ?_⟩
    cases h2 : (pathG E.length (farG E.length (turnE E) (goalsG E.length z)) E init).2
    · unfold pathG at h2 ⊢
      split
      · rfl
      · rename_i hb; rw [if_neg hb] at h2; cases h2
    · obtain ⟨x, hx, hxz, _⟩ := hpath h2
      have : initB z init = true := List.any_eq_true.2 ⟨x, hx, hxz⟩
      rw [hib] at this; cases this
  · refine .inr ⟨rfl, hpath ?_⟩
    obtain ⟨x, hx, hxz⟩ := List.any_eq_true.1 hib
    obtain ⟨i, rfl, hil, hzi⟩ := hasB_iff.1 hxz
    have hiE : i < E.length := by rw [← h.1]; exact hil
    have hb : 0 ≤ bestG E.length (farG E.length (turnE E) (goalsG E.length z)) init := bestG_ge ⟨(i : Int), hx, isNd_iff.2 ⟨by omega, by omega⟩, by rw [Int.toNat_natCast]; exact (hD i hiE).2 hzi⟩
    rw [pathG, if_neg (by omega)]

theorem keyI (x : Int) : WideAt.IsKeyLit (.int .i64 x) := trivial
/-- What the map of the ends of rounds says. -/
structure MapOk (ne : Nat) (sets : List (List Bool)) (W : List Int) (ends : List Nat) (D : DataW Unit) : Prop where
  isMap : IsMap D
  nodup : ends.Nodup
  rng : ∀ e ∈ ends, e < ne
  key : ∀ e : Nat, Maps.has D (.int .i64 (e : Int)) = decide (e ∈ ends)
  at_ : ∀ e ∈ ends, ∃ k : Nat, D.atKey (.int .i64 (e : Int)) (.lit (.int .i64 0)) = .lit (.int .i64 (k : Int)) ∧ k + 1 < W.length ∧ W[k]? = some (e : Int) ∧ ∀ s ∈ sets, ∃ (j : Nat) (x : Int), k < j ∧ W[j]? = some x ∧ hasB s x = true
theorem MapOk.start {ne : Nat} {sets : List (List Bool)} {W : List Int} : MapOk ne sets W [] (.map []) :=
  ⟨isMap_empty, List.nodup_nil, by simp, fun e => by simp [Maps.has], by simp⟩
theorem MapOk.le {ne : Nat} {sets : List (List Bool)} {W : List Int} {ends : List Nat} {D : DataW Unit} (h : MapOk ne sets W ends D) : ends.length ≤ ne := by
  suffices key : ∀ (n : Nat) (l : List Nat), l.Nodup → (∀ e ∈ l, e < n) → l.length ≤ n from key ne ends h.nodup h.rng
  intro n
  induction n with
  | zero =>
    intro l _ hl
    cases l with
    | nil => simp
    | cons a l => have := hl a (by simp); omega
  | succ n ih =>
    intro l hn hl
    by_cases hm : n ∈ l
    · have h1 := ih (l.erase n) (hn.erase n) (fun e he => by
        have h2 := hl e (List.mem_of_mem_erase he)
        have h3 : e ≠ n := fun e1 => by subst e1; exact hn.not_mem_erase he
        omega)
      rw [List.length_erase_of_mem hm] at h1
      omega
    · have h1 := ih l hn (fun e he => by
        have h2 := hl e he
        have h3 : e ≠ n := fun e1 => hm (e1 ▸ he)
        omega)
      omega
/-- A round is gone, and noted. -/
theorem MapOk.next {E : List (List Nd)} {z : List Bool} {ne : Nat} {sets : List (List Bool)} {a : List Int} {e : Nat} {W : List Int} {ends : List Nat} {D : DataW Unit} (h : MapOk ne sets (a ++ [(e : Int)]) ends D) (hne : e ∉ ends) (hen : e < ne)
    (hr : Rnd E z sets (a ++ [(e : Int)]) sets.length W) : MapOk ne sets W (ends ++ [e]) (D.put (.int .i64 (e : Int)) (.lit (.int .i64 (a.length : Int)))) := by
  obtain ⟨m, rfl, hm, _, hmet, _⟩ := hr.ex
  have hlt : ∀ {k : Nat} {x : Int}, (a ++ [(e : Int)])[k]? = some x → (a ++ [(e : Int)] ++ m)[k]? = some x := fun hk => by
    rw [List.getElem?_append_left (List.getElem?_eq_some_iff.1 hk).1]; exact hk
  refine ⟨h.isMap.put _ _, ?_, ?_, fun k => ?_, fun k hk => ?_⟩
  · rw [List.nodup_append]
    refine ⟨h.nodup, by simp, fun x hx y hy => ?_⟩
    rw [List.mem_singleton] at hy
    rintro rfl
    exact hne (hy ▸ hx)
  · intro k hk
    rcases List.mem_append.1 hk with h' | h'
    · exact h.rng k h'
    · rw [List.mem_singleton] at h'; omega
  · by_cases he : k = e
    · subst he
      rw [has_put_same h.isMap (keyI _)]; simp
    · rw [has_put_other (by intro h'; simp at h'; omega), h.key k]
      simp [he]
  · by_cases he : k = e
    · subst he
      refine ⟨a.length, by rw [atKey_put_same h.isMap (keyI _)], ?_, ?_, fun s hs => ?_⟩
      · have := List.length_pos_iff.2 hm
        simp; omega
      · rw [List.append_assoc, List.getElem?_append_right (Nat.le_refl _), Nat.sub_self]; rfl
      · obtain ⟨i, hi⟩ := List.getElem?_of_mem hs
        obtain ⟨x, hx, hxs⟩ := hmet i s (List.getElem?_eq_some_iff.1 hi).1 hi
        obtain ⟨t, ht⟩ := List.getElem?_of_mem hx
        exact ⟨a.length + 1 + t, x, by omega, by rw [List.getElem?_append_right (by simp)]; simpa using ht, hxs⟩
    · have hk' : k ∈ ends := by
        rcases List.mem_append.1 hk with h' | h'
        · exact h'
        · rw [List.mem_singleton] at h'; exact absurd h' he
      obtain ⟨t, h1, h2, h3, h4⟩ := h.at_ k hk'
      refine ⟨t, by rw [atKey_put_other (by intro h'; simp at h'; omega)]; exact h1, by rw [List.length_append]; omega, hlt h3, fun s hs => ?_⟩
      obtain ⟨j, x, hj, hx, hxs⟩ := h4 s hs
      exact ⟨j, x, hj, hlt hx, hxs⟩

theorem own_ne_map {w : World} {base e size n b m : Nat} {v : Value} {xs : List Value} {P : Program} {k : TypeId} {R : Value → Option (DataW Unit × List MemPlace)} {D : DataW Unit} (h : w.ownsRow base e size v n xs) (hm : w.ownsMap P k R b m D) : v.ownBlock ≠ some b := by
  intro hg
  obtain ⟨es, clock, hb, _⟩ := hm
  rcases h.2 with ⟨rfl, _⟩ | ⟨g, cap, cur, rfl, _, hh, _⟩
  · simp [Value.ownBlock] at hg
  · simp [Value.ownBlock] at hg
    subst hg
    rw [hh] at hb; cases hb
theorem map_tch {w w' : World} {S : Nat → Prop} {b m : Nat} {P : Program} {k : TypeId} {R : Value → Option (DataW Unit × List MemPlace)} {D : DataW Unit} (h : w.ownsMap P k R b m D) (ht : Tch S w w') (hn : ¬ S b) : w'.ownsMap P k R b m D := by
  obtain ⟨es, clock, hb, hr⟩ := h
  exact ⟨es, clock, ht.blk hb hn, hr⟩
theorem blk_ne_map {w : World} {b g m T : Nat} {cs : Array Value} {P : Program} {k : TypeId} {R : Value → Option (DataW Unit × List MemPlace)} {D : DataW Unit} (hg : w.heap[g]? = some (.cells cs T (0, 0))) (hm : w.ownsMap P k R b m D) : g ≠ b := by
  rintro rfl
  obtain ⟨es, clock, hb, _⟩ := hm
  rw [hg] at hb; cases hb
theorem Own2.rowOwn {w : World} {base te tr size : Nat} {v : Value} {L : List (List Value)} {vs : List Value} (h : Own2 w base te tr size v L vs) {j : Nat} {u : Value} (hu : vs[j]? = some u) : ∃ n ys, w.ownsRow base te size u n ys := by
  have hj : j < L.length := by rw [← h.len]; exact (List.getElem?_eq_some_iff.1 hu).1
  obtain ⟨u', n', hu', ho⟩ := h.row j L[j] (by simp [hj])
  rw [hu] at hu'
  cases hu'
  exact ⟨_, _, ho⟩

/-- What lies in memory while a lasso is looked for. -/
structure LI (w0 : World) (ne : Nat) (z : List Bool) (E : List (List Nd)) (Az : Option Addr) (cz : Nat) (ai : Option Addr) (ci : Nat) (ae : Option Addr) (ce : Nat) (al : Option Addr) (cl : Nat) (vs : List Value) (hb S q Bm : Nat) (WB : List Nat) (nm : Nat) (D : DataW Unit) (v : Value) (W : List Int) (wr : World) : Prop where
  fair : wr.ownsRow w0.heap.size 4 1 (.slice Az ne cz) ne (bcells z)
  rows : Own2 wr w0.heap.size 42 34 2 (.slice ae ne ce) ((withinE E z).map ncells) vs
  bh : wr.heap[hb]? = some (.cells #[.slice ai 0 ci, .slice ae ne ce, .slice al 0 cl] 26 (0, 0))
  bs : BSet S q ne WB wr
  mp : wr.ownsMap Try.prog 3 (plainElem Try.prog 3) Bm nm D
  way : wr.ownsRow w0.heap.size 3 1 v W.length (icells W)
  bel : Below w0.heap.size w0 wr
  qb : w0.heap.size ≤ q
  mb : w0.heap.size ≤ Bm
section
variable {w0 wr w' : World} {ne : Nat} {z : List Bool} {E : List (List Nd)} {Az : Option Addr} {cz : Nat} {ai : Option Addr} {ci : Nat} {ae : Option Addr} {ce : Nat} {al : Option Addr} {cl : Nat} {vs : List Value} {hb S q Bm : Nat} {WB WB' : List Nat} {nm : Nat} {D : DataW Unit} {v v' : Value} {W W' : List Int}
theorem LI.below (h : LI w0 ne z E Az cz ai ci ae ce al cl vs hb S q Bm WB nm D v W wr) (hb' : Below wr.heap.size wr w') : LI w0 ne z E Az cz ai ci ae ce al cl vs hb S q Bm WB nm D v W w' :=
  ⟨own_below h.fair hb', h.rows.below hb', (hb'.block _ (lt_of_block h.bh)).trans h.bh, h.bs.below hb', map_tch h.mp (Tch.of_below hb') (by have := h.mp.lt; omega), own_below h.way hb', h.bel.trans (hb'.mono h.bel.size), h.qb, h.mb⟩
theorem LI.put (h : LI w0 ne z E Az cz ai ci ae ce al cl vs hb S q Bm WB nm D v W wr) (hs : BSet S q ne WB' w') (ht : Tch (fun k => k = q) wr w') : LI w0 ne z E Az cz ai ci ae ce al cl vs hb S q Bm WB' nm D v W w' := by
  have hq := h.bs.2.1
  refine ⟨own_tch h.fair ht (fun g hg e => own_ne h.fair hq (by decide) g hg (by rw [e]; rfl)), h.rows.tch ht (fun g hg e => own_ne h.rows.main hq (by decide) g hg (by rw [e]; rfl)) (fun j u g hu hg e => ?_), ht.blk h.bh (fun e => own_ne_blk hq h.bh (by decide) (by rw [e]; rfl)),
    hs, map_tch h.mp ht (fun e => own_ne_map hq h.mp (by rw [e]; rfl)), own_tch h.way ht (fun g hg e => own_ne h.way hq (by decide) g hg (by rw [e]; rfl)), h.bel.trans (ht.below h.bel.size (fun k hk e => by have := h.qb; omega)), h.qb, h.mb⟩
  obtain ⟨n, ys, ho⟩ := h.rows.rowOwn hu
  exact own_ne ho hq (by decide) g hg (by rw [e]; rfl)
theorem LI.note {nm' : Nat} {D' : DataW Unit} (h : LI w0 ne z E Az cz ai ci ae ce al cl vs hb S q Bm WB nm D v W wr) (hs : w'.ownsMap Try.prog 3 (plainElem Try.prog 3) Bm nm' D') (hg : wr.grownBy w' (some Bm)) : LI w0 ne z E Az cz ai ci ae ce al cl vs hb S q Bm WB nm' D' v W w' := by
  have ht := Tch.of_grown hg
  refine ⟨own_tch h.fair ht (fun g hg e => own_ne_map h.fair h.mp (by rw [e]; exact hg)), h.rows.tch ht (fun g hg e => own_ne_map h.rows.main h.mp (by rw [e]; exact hg)) (fun j u g hu hg e => ?_), ht.blk h.bh (fun e => blk_ne_map h.bh h.mp (by cases e; rfl)),
    h.bs.tch ht (fun e => blk_ne_map h.bs.1 h.mp (by cases e; rfl)) (fun e => own_ne_map h.bs.2.1 h.mp (by cases e; rfl)), hs, own_tch h.way ht (fun g hg e => own_ne_map h.way h.mp (by rw [e]; exact hg)), h.bel.trans (ht.below h.bel.size (fun k hk e => by cases e; have := h.mb; omega)), h.qb, h.mb⟩
  obtain ⟨n, ys, ho⟩ := h.rows.rowOwn hu
  exact own_ne_map ho h.mp (by rw [e]; exact hg)
theorem LI.go (h : LI w0 ne z E Az cz ai ci ae ce al cl vs hb S q Bm WB nm D v W wr) (ho : w'.ownsRow w0.heap.size 3 1 v' W'.length (icells W')) (ht : Tch (fun k => v.ownBlock = some k) wr w') : LI w0 ne z E Az cz ai ci ae ce al cl vs hb S q Bm WB nm D v' W' w' := by
  refine ⟨own_tch h.fair ht (fun g hg e => own_ne h.fair h.way (by decide) g hg e), h.rows.tch ht (fun g hg e => own_ne h.rows.main h.way (by decide) g hg e) (fun j u g hu hg e => ?_), ht.blk h.bh (own_ne_blk h.way h.bh (by decide)),
    h.bs.tch ht (own_ne_blk h.way h.bs.1 (by decide)) (fun e => own_ne h.way h.bs.2.1 (by decide) q e rfl), map_tch h.mp ht (own_ne_map h.way h.mp), ho, h.bel.trans (ht.below h.bel.size (fun k hk e => by have := (h.way.lt k e).1; omega)), h.qb, h.mb⟩
  obtain ⟨n, ys, hor⟩ := h.rows.rowOwn hu
  exact own_ne hor h.way (by decide) g hg e
/-- What a round reads, whatever the way's own block holds. -/
theorem LI.reads (h : LI w0 ne z E Az cz ai ci ae ce al cl vs hb S q Bm WB nm D v W wr) (hi : ci ≤ maxLen) (hin : ai = none → ci = 0) (hl : cl ≤ maxLen) (hln : al = none → cl = 0) (hne : ne = (withinE E z).length) {As : Option Addr} {ns cs : Nat} {sets : List (List Bool)} {B : Nat} (hs : Sl2 w0 B 1 As ns cs (sets.map bcells)) (hB : B ≤ w0.heap.size) (ht : Tch (fun k => v.ownBlock = some k) wr w') :
    GrRd w' w'.heap.size ai 0 ci ae ne ce al 0 cl ⟨[], withinE E z, []⟩ ∧ Sl2 w' w'.heap.size 1 As ns cs (sets.map bcells) ∧ Sl w' w'.heap.size 1 Az ne cz (z.map .bool) := by
  have hr := h.rows.tch ht (fun g hg e => own_ne h.rows.main h.way (by decide) g hg e) (fun j u g hu hg e => by
    obtain ⟨n, ys, hor⟩ := h.rows.rowOwn hu
    exact own_ne hor h.way (by decide) g hg e)
  have hf := own_tch h.fair ht (fun g hg e => own_ne h.fair h.way (by decide) g hg e)
  have hbl : Below w0.heap.size w0 w' := h.bel.trans (ht.below h.bel.size (fun k hk e => by have := (h.way.lt k e).1; omega))
  have hsz := hbl.size
  obtain ⟨A3, c3, e3, s3⟩ := hr.sl2
  rw [List.length_map, ← hne] at e3 s3
  cases e3
  obtain ⟨A4, c4, e4, s4⟩ := own_sl hf
  cases e4
  exact ⟨⟨⟨rfl, Nat.zero_le _, hi, hin, .inl rfl⟩, s3, ⟨rfl, Nat.zero_le _, hl, hln, .inl rfl⟩⟩, (hs.below hbl hB).up (by omega), s4⟩
end
end Go.Proofs.Ytfpncpjdmgfkbaa
