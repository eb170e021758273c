/- Texts that stand one behind the other, in one file. -/
import Derived.Test.YtamhjgkigjpbhaaDoorTbK
import Derived.Test.YtamhjgkigjpbhaaDoorCv9
import Derived.Test.YtamhjgkigjpbhaaDoorTbL

/- How covers are numbered one after another (layer 29); plain. -/
namespace Go.Proofs.YtamhjgkigjpbhaaDoor

theorem leaves_sm {f : List Nd} (hN : isN f = true) (n : Nat) {w : Way} (hw : WOk f w) (h1 : w.need < 256) (h2 : w.ban < 256) : ∀ y ∈ leaves f n w, y.need < 256 ∧ y.ban < 256 := by
  intro y hy
  exact way_ind (kidsOk_of hN) (fun w y => w.need < 256 → w.ban < 256 → y.need < 256 ∧ y.ban < 256) (fun w _ _ a b => ⟨a, b⟩) (fun w j t x y hw hs hx _ ih a b => by
    obtain ⟨hm, _, hj⟩ := made_ok hw hs
    obtain ⟨c, d, _⟩ := split_small (ndF hN hj) (w := w.made j t) a b x hx
    exact ih c d) n w hw y hy h1 h2
theorem leaves_13 {f : List Nd} (hN : isN f = true) (hl : f.length ≤ 13) (n : Nat) {w : Way} (hw : WOk f w) : (leaves f n w).length ≤ 10000 := by
  have h1 := leaves_len (kidsOk_of hN) n w hw
  have h0 : brF f w.now ≤ 13 := Nat.le_trans (List.countP_le_length) (by rw [List.length_range]; exact hl)
  have h2 : 2 ^ brF f w.now ≤ 2 ^ 13 := Nat.pow_le_pow_right (by omega) h0
  have : (2 : Nat) ^ 13 = 8192 := by decide
  omega
theorem onL_lt {n : Nat} {l : List Bool} (h : l.length = n) : ∀ x ∈ onL l, x < n := fun x hx => by
  unfold onL at hx
  have := List.mem_range.1 (List.mem_filter.1 hx).1
  omega
/-- What the covers of parts are. -/
theorem cov_facts {f : List Nd} (hN : isN f = true) (hl : f.length ≤ 13) {ps : List Nat} (hp : ∀ x ∈ ps, x < f.length) :
    (coversL f ps).Nodup ∧ (∀ c ∈ coversL f ps, CovOk f.length c) ∧ (coversL f ps).length ≤ 10000 := by
  obtain ⟨hn, hc⟩ := coversL_rises (kidsOk_of hN) hp
  refine ⟨hn, fun c hcm => ?_, ?_⟩
  · obtain ⟨_, _, d, e⟩ := hc c hcm
    have hsm : c.1 < 256 ∧ c.2.1 < 256 := by
      rcases (onceC_mem _ _ _).1 hcm with h | h
      · cases h
      · obtain ⟨y, hy, rfl⟩ := List.mem_map.1 h
        exact leaves_sm hN (f.length + 1) (startW_ok hp) (by show 0 < 256; omega) (by show 0 < 256; omega) y hy
    exact ⟨⟨hsm.1, hsm.2, fun x hx => by have := onL_lt d x hx; omega, fun x hx => by have := onL_lt e x hx; omega⟩, d, e⟩
  · have h1 := onceC_len ((leaves f (f.length + 1) (startW f.length ps)).map Way.cov) []
    have h2 := leaves_13 hN hl (f.length + 1) (startW_ok hp)
    rw [List.length_map] at h1
    unfold coversL
    simp at h1
    omega
theorem good_of {f : List Nd} (hN : isN f = true) (hl : f.length ≤ 13) {ps : List Int} (hp : ∀ x ∈ ps, 0 ≤ x ∧ x < f.length) : goodB f ps = true := by
  unfold goodB
  rw [hN]
  simp only [Bool.true_and, Bool.and_eq_true, decide_eq_true_eq]
  refine ⟨by omega, List.all_eq_true.2 (fun x hx => ?_)⟩
  have := hp x hx
  simp [partB]; omega
section
variable {T L : List Cov} {i : Nat}
theorem once_snoc (hi : i < T.length) : onceC (T.take (i + 1)) L = addC (onceC (T.take i) L) T[i] := by
  rw [take_snoc T i hi, onceC_app]; rfl
theorem once_le (T L : List Cov) (i : Nat) : (onceC (T.take i) L).length ≤ (onceC T L).length := by
  have e : onceC T L = onceC (T.drop i) (onceC (T.take i) L) := by rw [← onceC_app, List.take_append_drop]
  obtain ⟨m, hm⟩ := onceC_pre (T.drop i) (onceC (T.take i) L)
  rw [e, hm, List.length_append]; omega
theorem once_has {c : Cov} (h : c ∈ T.take i) : c ∈ onceC (T.take i) L := (onceC_mem _ _ _).2 (.inr h)
theorem addC_pre (L : List Cov) (c : Cov) : ∃ m, addC L c = L ++ m := by
  unfold addC; split
  · exact ⟨[], by simp⟩
  · exact ⟨[c], rfl⟩
theorem addC_has (L : List Cov) (c : Cov) : c ∈ addC L c := by
  unfold addC; split
  · assumption
  · simp
theorem row_snoc (hi : i < T.length) : rowL (onceC (T.take (i + 1)) L) (T.take (i + 1)) = rowL (onceC (T.take i) L) (T.take i) ++ [(addC (onceC (T.take i) L) T[i]).idxOf T[i]] := by
  rw [once_snoc hi]
  obtain ⟨m, hm⟩ := addC_pre (onceC (T.take i) L) T[i]
  conv => lhs; rw [take_snoc T i hi]
  have e : rowL (addC (onceC (T.take i) L) T[i]) (T.take i) = rowL (onceC (T.take i) L) (T.take i) := by rw [hm]; exact rowL_pre (fun c hc => once_has hc)
  unfold rowL at e ⊢
  rw [List.map_append, e]; rfl
theorem idx_inj {L : List Cov} {c d : Cov} (hc : c ∈ L) (_hd : d ∈ L) (h : L.idxOf c = L.idxOf d) : c = d := by
  have h1 := idx_get hc
  have h2 := idx_get _hd
  rw [h, h2] at h1
  exact (Option.some.inj h1).symm
theorem row_fresh (hn : T.Nodup) (hi : i < T.length) : (addC (onceC (T.take i) L) T[i]).idxOf T[i] ∉ rowL (onceC (T.take i) L) (T.take i) := by
  obtain ⟨m, hm⟩ := addC_pre (onceC (T.take i) L) T[i]
  have e : rowL (addC (onceC (T.take i) L) T[i]) (T.take i) = rowL (onceC (T.take i) L) (T.take i) := by rw [hm]; exact rowL_pre (fun c hc => once_has hc)
  rw [← e]
  intro h
  obtain ⟨c, hc, hcx⟩ := List.mem_map.1 h
  have hc2 : c ∈ addC (onceC (T.take i) L) T[i] := by rw [hm]; exact List.mem_append.2 (.inl (once_has hc))
  have := idx_inj hc2 (addC_has _ _) hcx
  subst this
  obtain ⟨j, hj, he⟩ := List.mem_iff_getElem.1 hc
  rw [List.getElem_take] at he
  have hj' : j < i := by simp at hj; omega
  have := (List.getElem_inj hn).1 he
  omega
theorem addC_256 {L : List Cov} {c : Cov} (h : L.length ≤ 256) : ((addC L c).idxOf c < 256 → (addC L c).length ≤ 256) ∧ (addC L c).idxOf c < (addC L c).length ∧ (addC L c).length ≤ 257 := by
  have h2 := List.idxOf_lt_length_of_mem (addC_has L c)
  refine ⟨fun h1 => ?_, h2, ?_⟩
  · by_cases hm : c ∈ L
    · unfold addC; rw [if_pos hm]; exact h
    · unfold addC at h1 ⊢
      rw [if_neg hm] at h1 ⊢
      rw [List.idxOf_append, if_neg hm] at h1
      rw [List.length_append, List.length_singleton]
      simp at h1
      omega
  · unfold addC; split
    · omega
    · rw [List.length_append, List.length_singleton]; omega
end
end Go.Proofs.YtamhjgkigjpbhaaDoor

/- The walk of (*tableau.maker).all (layer 29). -/
namespace Go.Proofs.YtamhjgkigjpbhaaDoor
open Go.RowKit Go.Maps

theorem tz_tch {S : Nat → Prop} {w w' : World} (hT : TzTab w) (ht : Tch S w w') (hS : ¬ S 2) : TzTab w' := fun j hj =>
  (cell_of_blk (ht.block _ (tz_lt hT) hS)).trans (hT j hj)
/-- What all leaves. -/
def APost (n0 _B kb nb ob : Nat) (Af : Option Addr) (cf : Nat) (f : List Nd) (sets : Int) (w : World) (L : List Cov) (p : Nat) (rows : List (List Nat)) (vi vn : Value) (T : List Cov) (en : Ending) (w' : World) : Prop :=
  ((onceC T L).length ≤ 256 → ∃ A c vn', en = .returned (.tuple #[.slice A (rowL (onceC T L) T).length c, .bool true]) ∧ TS n0 w'.heap.size kb nb ob Af cf f sets w' (onceC T L) p rows vi vn' ∧ TSl w' 3 A (rowL (onceC T L) T).length c (icells (natI (rowL (onceC T L) T))) ∧
    Tch (Tk kb nb ob vn) w w' ∧ ∀ i, vn'.ownBlock = some i → i < w.heap.size → vn.ownBlock = some i) ∧
  (256 < (onceC T L).length → en = .returned (.tuple #[.slice none 0 0, .bool false]) ∧ Below n0 w w')
/-- What the loop of all keeps: i covers have their numbers. -/
structure AL (n0 kb nb ob : Nat) (Af : Option Addr) (cf : Nat) (f : List Nd) (sets : Int) (L : List Cov) (p : Nat) (rows : List (List Nat)) (vi vn : Value) (T : List Cov) (w1 : World) (sb i : Nat) (u : Value) (wr : World) : Prop where
  len : (onceC (T.take i) L).length ≤ 256
  ts : ∃ vn', TS n0 w1.heap.size kb nb ob Af cf f sets wr (onceC (T.take i) L) p rows vi vn' ∧ ∀ j, vn'.ownBlock = some j → j < w1.heap.size → vn.ownBlock = some j
  tch : Tch (fun k => Tk kb nb ob vn k ∨ k = sb) w1 wr
  out : wr.ownsRow w1.heap.size 3 1 u (rowL (onceC (T.take i) L) (T.take i)).length (icells (natI (rowL (onceC (T.take i) L) (T.take i))))
  seen : ∃ g, GMap wr 3 sb i g ∧ ∀ q : Nat, q ∉ rowL (onceC (T.take i) L) (T.take i) → g (.int .i64 (q : Int)) = none
  sne : sb ≠ nb ∧ sb ≠ ob ∧ n0 ≤ sb ∧ n0 ≤ w1.heap.size
section
variable {n0 kb nb ob : Nat} {Af : Option Addr} {cf : Nat} {f : List Nd} {sets : Int} {L : List Cov} {p : Nat} {rows : List (List Nat)} {vi vn : Value} {T : List Cov} {w1 wr : World} {sb i : Nat} {u : Value}
theorem AL.step (h : AL n0 kb nb ob Af cf f sets L p rows vi vn T w1 sb i u wr) (hi : i < T.length) {vn1 vn2 : Value} {W5 W6 W7 W8 W9 : World} (hv1 : ∀ j, vn1.ownBlock = some j → j < w1.heap.size → vn.ownBlock = some j)
    (hb5 : Below wr.heap.size wr W5) (hts : TS n0 w1.heap.size kb nb ob Af cf f sets W6 (addC (onceC (T.take i) L) T[i]) p rows vi vn2) (ht6 : Tch (Tk kb nb ob vn1) W5 W6) (hv2 : ∀ j, vn2.ownBlock = some j → j < W5.heap.size → vn1.ownBlock = some j)
    (hidx : (addC (onceC (T.take i) L) T[i]).idxOf T[i] < 256) {g : Lit → Option Value} (hg6 : GMap W6 3 sb i g) (hgn : ∀ q : Nat, q ∉ rowL (onceC (T.take i) L) (T.take i) → g (.int .i64 (q : Int)) = none)
    {x : Value} (hg7 : ∀ g', PutG g g' (.int .i64 ((addC (onceC (T.take i) L) T[i]).idxOf T[i] : Nat)) x → GMap W7 3 sb (i + 1) g') (ht7 : W6.grownBy W7 (some sb)) (hb8 : Below W7.heap.size W7 W8)
    (hou : W8.ownsRow w1.heap.size 3 1 u (rowL (onceC (T.take i) L) (T.take i)).length (icells (natI (rowL (onceC (T.take i) L) (T.take i)))))
    {u' : Value} {n' : Nat} (hn' : n' = (rowL (onceC (T.take i) L) (T.take i)).length + 1) (ho9 : W9.ownsRow w1.heap.size 3 1 u' n' (icells (natI (rowL (onceC (T.take i) L) (T.take i))) ++ [.int .i64 ((addC (onceC (T.take i) L) T[i]).idxOf T[i] : Nat)])) (ht9 : Tch (fun k => u.ownBlock = some k) W8 W9) :
    AL n0 kb nb ob Af cf f sets L p rows vi vn T w1 sb (i + 1) u' W9 := by
  subst hn'
  have z1 := h.tch.size
  have z5 := hb5.size
  have z6 := ht6.size
  have hsn := h.sne
  have t7 : Tch (fun k => k = sb) W6 W7 := (Tch.of_grown ht7).mono (fun i _ e => by injection e with e; exact e.symm)
  have z7 := t7.size
  have z8 := hb8.size
  have hgs : ∃ g', PutG g g' (.int .i64 ((addC (onceC (T.take i) L) T[i]).idxOf T[i] : Nat)) x := putG_ex _ _ _
  obtain ⟨g', hpg⟩ := hgs
  have hgm7 := hg7 g' hpg
  have hgm8 := hgm7.keep (Tch.of_below hb8) (by have := hgm7.lt; omega)
  have hgm9 := hgm8.keep ht9 (fun e => by obtain ⟨cs, hc⟩ := own_cells hou e; exact hgm8.no_cells hc rfl)
  have hts7 : TS n0 w1.heap.size kb nb ob Af cf f sets W7 (addC (onceC (T.take i) L) T[i]) p rows vi vn2 := by
    refine hts.keep t7 (fun e => hg6.no_cells hts.bk e) (fun e => hsn.1 e.symm) (fun e => hsn.2.1 e.symm) (fun g0 hg0 e => ?_) (fun k cs _ hk e => hg6.no_cells hk e) (fun k hk e => by omega)
    obtain ⟨xs, ho, _⟩ := hts.nds
    obtain ⟨cs, hc⟩ := own_cells ho hg0
    exact hg6.no_cells hc e
  have hts8 := hts7.keep (Tch.of_below hb8) (by have := heap_lt hts7.bk; omega) (by have := hts7.nb_lt; omega) (by have := hts7.ob_lt; omega) (fun g0 hg0 => by obtain ⟨xs, ho, _⟩ := hts7.nds; have := (ho.lt g0 hg0).2; omega) (SpB.of (spares_new W7 _)) (fun k hk => by have := hts7.lt.1; omega)
  have hts9 : TS n0 w1.heap.size kb nb ob Af cf f sets W9 (addC (onceC (T.take i) L) T[i]) p rows vi vn2 := by
    refine hts8.keep ht9 (own_ne_blk hou hts8.bk (by decide)) (fun e => ?_) (fun e => ?_) (fun g0 hg0 e => ?_) (fun k cs hk _ e => by have := (hou.lt k e).1; omega) (fun k hk e => by have := (hou.lt k e).1; omega)
    · obtain ⟨cs, hc⟩ := own_cells hou e; exact hts8.nb_cells hc rfl
    · obtain ⟨cs, hc⟩ := own_cells hou e; exact hts8.ob_cells hc rfl
    · obtain ⟨xs, ho, _⟩ := hts8.nds
      obtain ⟨cs, hc⟩ := own_cells ho hg0
      exact own_ne_blk hou hc (by decide) e
  have hrow := row_snoc (L := L) hi
  refine ⟨?_, ⟨vn2, by rw [once_snoc hi]; exact hts9, fun j hj hjl => hv1 j (hv2 j hj (by omega)) hjl⟩, ?_, ?_, ⟨g', hgm9, fun q hq => ?_⟩, hsn⟩
  · rw [once_snoc hi]; exact (addC_256 h.len).1 hidx
  · have a5 : Tch (fun k => Tk kb nb ob vn k ∨ k = sb) w1 W5 := h.tch.trans (Tch.of_below hb5) (fun k hk e => by omega)
    have a6 : Tch (fun k => Tk kb nb ob vn k ∨ k = sb) w1 W6 := a5.trans ht6 (fun k hk e => by
      rcases e with e | e | e | e
      · exact .inl (.inl e)
      · exact .inl (.inr (.inl e))
      · exact .inl (.inr (.inr (.inl e)))
      · exact .inl (.inr (.inr (.inr (hv1 k e hk)))))
    have a7 : Tch (fun k => Tk kb nb ob vn k ∨ k = sb) w1 W7 := a6.trans t7 (fun k hk e => .inr e)
    have a8 : Tch (fun k => Tk kb nb ob vn k ∨ k = sb) w1 W8 := a7.trans (Tch.of_below hb8) (fun k hk e => by omega)
    exact a8.trans ht9 (fun k hk e => by have := (hou.lt k e).1; omega)
  · rw [hrow, List.length_append, List.length_singleton]
    have e : icells (natI (rowL (onceC (T.take i) L) (T.take i) ++ [(addC (onceC (T.take i) L) T[i]).idxOf T[i]])) = icells (natI (rowL (onceC (T.take i) L) (T.take i))) ++ [.int .i64 ((addC (onceC (T.take i) L) T[i]).idxOf T[i] : Nat)] := by simp [icells, natI]
    rw [e]; exact ho9
  · rw [hrow, List.mem_append, List.mem_singleton, not_or] at hq
    rw [hpg.2 _ (fun e => by injection e with _ e; exact hq.2 (by omega))]
    exact hgn q hq.1
end
/-- A cover, read from a row that was there. -/
theorem rd_covB {w1 w : World} {S : Nat → Prop} {B : Nat} {A : Option Addr} {xs : List Value} {T : List Cov} (h : Rd w B A xs) (hc : CovsAt w1 xs T) (ht : Tch S w1 w) (hi : Spares S w1 3) {k : Nat} {c : Cov} (hk : T[k]? = some c) :
    ∃ b off A1 c1 A2 c2, A = some ⟨b, off, none⟩ ∧ b < B ∧ w.cell? ⟨b, off + k * 4, none⟩ = some (.int .u64 (c.1 : Int)) ∧ w.cell? ⟨b, off + k * 4 + 1, none⟩ = some (.int .u64 (c.2.1 : Int)) ∧
      w.cell? ⟨b, off + k * 4 + 2, none⟩ = some (.slice A1 (onL c.2.2.1).length c1) ∧ w.cell? ⟨b, off + k * 4 + 3, none⟩ = some (.slice A2 (onL c.2.2.2).length c2) ∧ CovRd w1.heap.size w c A1 c1 A2 c2 := by
  obtain ⟨A1, c1, A2, c2, e0, e1, e2, e3, t1, t2⟩ := hc k c hk
  rcases h with h0 | ⟨b, off, hA, hlt, hcell⟩
  · rw [h0] at e0; simp at e0
  · exact ⟨b, off, A1, c1, A2, c2, hA, hlt, hcell _ _ e0, by rw [Nat.add_assoc]; exact hcell _ _ e1, by rw [Nat.add_assoc]; exact hcell _ _ e2, by rw [Nat.add_assoc]; exact hcell _ _ e3, (TSb.of t1).keep ht (SpB.of hi), (TSb.of t2).keep ht (SpB.of hi)⟩
set_option maxHeartbeats 4000000 in
set_option maxRecDepth 100000 in
theorem all_any (n0 B kb nb ob : Nat) (Af : Option Addr) (cf : Nat) (f : List Nd) (sets : Int) (w : World) (L : List Cov) (p : Nat) (rows : List (List Nat)) (vi vn : Value) (Ap : Option Addr) (np cp : Nat) (ps : List Int)
    (h : TS n0 B kb nb ob Af cf f sets w L p rows vi vn) (hB : B ≤ w.heap.size) (hp : Sl w w.heap.size 1 Ap np cp (icells ps)) (hnp : np = ps.length) (hN : isN f = true) (hps : ∀ x ∈ ps, 0 ≤ x ∧ x < f.length) (hl : f.length ≤ 13) (hL : L.length ≤ 256) (hpl : np ≤ 1000) (hT : TzTab w) (hg : 2 < n0) :
    Calls Tryd.prog 22 #[.pointer (some ⟨kb, 0, none⟩), .slice Ap np cp] w (APost n0 B kb nb ob Af cf f sets w L p rows vi vn (coversL f (ps.map Int.toNat))) := by
  have hpn : ∀ x ∈ ps.map Int.toNat, x < f.length := fun x hx => by
    obtain ⟨z, hz, rfl⟩ := List.mem_map.1 hx
    have := hps z hz
    omega
  obtain ⟨hnd, hcok, hclen⟩ := cov_facts hN hl hpn
  have hgood := good_of hN hl hps
  have hask : askedL f ps = coversL f (ps.map Int.toNat) := by unfold askedL; rw [if_pos hgood]
  have hlv : (leaves f (f.length + 1) (startW f.length (ps.map Int.toNat))).length ≤ 1000000 := Nat.le_trans (leaves_13 hN hl _ (startW_ok hpn)) (by omega)
  obtain ⟨T, hTe⟩ : ∃ T, coversL f (ps.map Int.toNat) = T := ⟨_, rfl⟩
  rw [hTe] at hnd hcok hclen hask ⊢
  have hb0 : Below w.heap.size w (w.alloc (.map #[] 0)) := (Below.refl _ _).alloc (Nat.le_refl _) _
  have hx0 := heap_alloc_new w (.map #[] 0)
  have hz0 : (w.alloc (.map #[] 0)).heap.size = w.heap.size + 1 := by simp
  obtain ⟨W0, hW0⟩ : ∃ W0, w.alloc (.map #[] 0) = W0 := ⟨_, rfl⟩
  rw [hW0] at hb0 hx0 hz0
  have HW0 := Lib.hid hW0
  have HOF := Lib.hid (of_any Af cf f Ap np cp ps W0 (((h.below hb0).fs).up (by have := h.lt.1; omega)) ((hp.below hb0 (Nat.le_refl _)).up (by omega)) hnp (by omega) (by omega) (fun _ => hlv))
  rw [hask] at HOF
  obtain ⟨b0, b1, b2, b3, b4, b5⟩ := box6 (h.below hb0).bk
  have b0' : (w.alloc (.map #[] 0)).cell? ⟨kb, 0, none⟩ = some (.slice Af f.length cf) := by rw [HW0.out]; exact b0
  have hmk := run_makeMap (P := Tryd.prog) 79
  have HT := Lib.hid h
  have HTZ := Lib.hid hT
  have HND := Lib.hid hnd
  have HCOK := Lib.hid hcok
  have HTE := Lib.hid hTe
  clear h hT hnd hcok hTe hW0 hask hlv hgood hp hps hpn hnp b1 b2 b3 b4 b5
  go_enter Tryd.func22, Tryd.ntmps22
  go_wp2_with fail
  rw [HW0.out]
  refine Calls.mono HOF.out ?_
  rintro e w1 ⟨vT, xs, rfl, hoT, hcT, hb1⟩
  obtain ⟨AT, cT, rfl, hsT⟩ := own_sl hoT
  clear b0 b0' hmk
  have hb01 : Below w.heap.size w w1 := hb0.trans (hb1.mono (by omega))
  have hz1 := hb01.size
  have HT1 := Lib.hid ((HT.out.below hb01).up (show B ≤ w1.heap.size by omega))
  have hz1' := hb1.size
  have hseen : GMap w1 3 w.heap.size 0 (fun _ => none) := GMap.of_blk ((hb1.block _ (by omega)).trans hx0)
  have hSc : ∀ t : TypeId, 43 ≠ t → 54 ≠ t → Spares (fun k => Tk kb nb ob vn k ∨ k = w.heap.size) w1 t := fun t h1 h2 k cs hk e => by
    rcases e with e | e
    · exact HT1.out.spares h1 h2 k cs hk e
    · exact hseen.no_cells hk e
  have hAL0 : AL n0 kb nb ob Af cf f sets L p rows vi vn T w1 w.heap.size 0 (.slice none 0 0) w1 :=
    ⟨by simpa [onceC] using hL, ⟨vn, by simpa [onceC] using HT1.out, fun j hj _ => hj⟩, Tch.refl _ _, by simpa [rowL, icells, natI] using World.ownsRow_nil w1 w1.heap.size 3 1, ⟨_, hseen, fun _ _ => rfl⟩, ⟨fun e => by have := HT.out.nb_lt; omega, fun e => by have := HT.out.ob_lt; omega, by have := HT.out.lt.1; omega, by have := HT.out.lt.1; omega⟩⟩
  have HSC := Lib.hid hSc
  have HOT := Lib.hid hoT
  have HCT := Lib.hid hcT
  clear hsT hoT hcT hSc hseen
  go_wp2_with fail
  go_loopw [6, 19] (fun u v wr => ∃ i : Nat, i ≤ T.length ∧ v = .int .i64 i ∧ AL n0 kb nb ob Af cf f sets L p rows vi vn T w1 w.heap.size i u wr) (fun _ v _ => T.length - (intOf v).toNat)
  case atStart => exact ⟨0, by omega, rfl, hAL0⟩
  case round =>
    obtain ⟨i, hi, rfl, HAL'⟩ := hrel
    have HAL := Lib.hid HAL'
    clear HAL' hAL0
    by_cases hlt : i < T.length
    · have hor := own_tch HOT.out HAL.out.tch (fun g hg e => by obtain ⟨cs, hc⟩ := own_cells HOT.out hg; exact HSC.out _ (by decide) (by decide) g cs hc e)
      obtain ⟨Ar, cr, hAr, hsr⟩ := own_sl hor
      injection hAr with hA1 hA2 hA3
      subst hA1 hA3
      obtain ⟨ba, oa, E1, e1, E2, e2, rfl, hbal, p0, p1, p2, p3, hrd⟩ := rd_covB hsr.rd HCT.out HAL.out.tch (HSC.out _ (by decide) (by decide)) (List.getElem?_eq_getElem hlt)
      have h0 : (0 : Int) ≤ (i : Int) := by omega
      have h1 : (i : Int) < (T.length : Int) := by omega
      have hnz : ∀ k, (Tk kb nb ob vn k ∨ k = w.heap.size) → n0 ≤ k := fun k hk => by
        rcases hk with hk | hk
        · exact HT1.out.tk_ge hk
        · have := HT.out.lt.1; omega
      have htz : TzTab wr := tz_tch (tz_below HTZ.out hb01) HAL.out.tch (fun e => by have := hnz _ e; omega)
      have hb5 : Below wr.heap.size wr (wr.alloc (.cells #[.int .u64 (T[i].1 : Int), .int .u64 (T[i].2.1 : Int), .slice E1 (onL T[i].2.2.1).length e1, .slice E2 (onL T[i].2.2.2).length e2] 57)) := (Below.refl _ _).alloc (Nat.le_refl _) _
      obtain ⟨W5, hW5⟩ : ∃ W5, wr.alloc (.cells #[.int .u64 (T[i].1 : Int), .int .u64 (T[i].2.1 : Int), .slice E1 (onL T[i].2.2.1).length e1, .slice E2 (onL T[i].2.2.2).length e2] 57) = W5 := ⟨_, rfl⟩
      rw [hW5] at hb5
      have HW5 := Lib.hid hW5
      obtain ⟨vn1, hts, hv1⟩ := HAL.out.ts
      have hlen := HAL.out.len
      have HNB := Lib.hid (number_any n0 w1.heap.size kb nb ob Af cf f sets W5 (onceC (T.take i) L) p rows vi vn1 T[i] E1 e1 E2 e2 (hts.below hb5) (hrd.keep (Tch.of_below hb5) (SpB.of (spares_new wr _))) (HCOK.out _ (List.getElem_mem hlt)) (tz_below htz hb5) (by omega) (by omega))
      have HTS := Lib.hid hts
      have HV1 := Lib.hid hv1
      have hkbr := hts.bk
      have hol := HAL.out.out.lt
      clear hor hsr hW5 hrd htz hnz hts hlen
      go_wp2_with fail
      rw [HW5.out]
      refine Calls.mono HNB.out ?_
      rintro e W6 ⟨vn2, rfl, hts6, ht6, hv2⟩
      clear p0 p1 p2 p3
      have hl2 := (addC_256 (c := T[i]) HAL.out.len).2
      have hfr := row_fresh (L := L) HND.out hlt
      obtain ⟨n, hn⟩ : ∃ n, (addC (onceC (T.take i) L) T[i]).idxOf T[i] = n := ⟨_, rfl⟩
      rw [hn] at hl2 hfr ⊢
      have HNN := Lib.hid hn
      have hn257 : n < 257 := by omega
      have HTS6 := Lib.hid hts6
      have HT6 := Lib.hid ht6
      have HV2 := Lib.hid hv2
      clear hn hts6 ht6 hv2
      by_cases h256 : n < 256
      · obtain ⟨g, hgm, hgn⟩ := HAL.out.seen
        have hsn := HAL.out.sne
        have hgm6 : GMap W6 3 w.heap.size i g := (hgm.keep (Tch.of_below hb5) (by have := hgm.lt; omega)).keep HT6.out (fun e => by
          rcases e with e | e | e | e
          · exact hgm.no_cells hkbr e.symm
          · exact hsn.1 e
          · exact hsn.2.1 e
          · obtain ⟨xs', ho', _⟩ := HTS.out.nds
            obtain ⟨cs, hc⟩ := own_cells ho' e
            exact hgm.no_cells hc rfl)
        have hlk := hgm6.look false intKeyed Tryd.underlying79 (by kernel_rfl) (keyNat (q := n) (by omega)) (z := .int .i64 0)
        rw [hgn n hfr] at hlk
        simp only [Option.getD_none, Bool.false_eq_true, if_false] at hlk
        obtain ⟨W7, hup, hgm7, hgr7⟩ := hgm6.update intKeyed Tryd.underlying79 (by unfold maxLen; omega) (keyNat (q := n) (by omega)) (.int .i64 1)
        obtain ⟨g7, hpg⟩ := putG_ex g (.int .i64 (n : Int)) (.int .i64 1)
        have hlk2 := (hgm7 g7 hpg).look false intKeyed Tryd.underlying79 (by kernel_rfl) (keyNat (q := n) (by omega)) (z := .int .i64 0)
        rw [hpg.1] at hlk2
        simp only [Option.getD_some, Bool.false_eq_true, if_false] at hlk2
        have ht7 : Tch (fun k => k = w.heap.size) W6 W7 := (Tch.of_grown hgr7).mono (fun i _ e => by injection e with e; exact e.symm)
        have hou := HAL.out.out
        have hou5 := own_tch hou (Tch.of_below hb5) (fun g hg => by have := (hou.lt g hg).2; omega)
        have hou6 := own_tch hou5 HT6.out (fun g hg e => by
          obtain ⟨cs, hc⟩ := own_cells hou5 hg
          exact (HTS.out.below hb5).spares (by decide) (by decide) g cs hc e)
        have hou7 := own_tch hou6 ht7 (fun g hg e => by obtain ⟨cs, hc⟩ := own_cells hou6 hg; exact hgm6.no_cells hc e)
        have HG7 := Lib.hid hgm7
        have HGR := Lib.hid hgr7
        have HG6 := Lib.hid hgm6
        have HGN := Lib.hid hgn
        have HOU := Lib.hid hou7
        have hw17 : w1.heap.size ≤ W7.heap.size := by have := HAL.out.tch.size; have := hb5.size; have := HT6.out.size; have := ht7.size; omega
        have hrl : (rowL (onceC (T.take i) L) (T.take i)).length ≤ 10000 := by simp [rowL]; omega
        have wi : IntKind.i64.wrap ((i : Int) + 1) = i + 1 := by rw [IntKind.wrap_i64]; omega
        clear hgm hgn hgm6 hgm7 hgr7 hpg hou hou5 hou6 hou7 ht7 hol hkbr hfr
        go_wp2_with (at_builtin
                     refine wpList_push rfl (.tmp 36) (.tmp 38) 25 rfl w1.heap.size 3 1 8 sliceInt _ _ _ (HOU.out.alloc _) rfl W7.heap.size #[.int .i64 n] rfl (heap_alloc_new W7 _) rfl (by simp [Value.oneCell']) (by omega) (by omega) (by simp; omega) ?_
                     intro v9 W9 ho9 ht9 hat9 hne9)
        go_roundw
        case rel => exact ⟨i + 1, by omega, by go_num, HAL.out.step hlt HV1.out hb5 HTS6.out HT6.out HV2.out (by rw [HNN.out]; exact h256) HG6.out HGN.out (by rw [HNN.out]; exact HG7.out) HGR.out ((Below.refl _ _).alloc (Nat.le_refl _) _) (HOU.out.alloc _) rfl (by rw [HNN.out]; exact ho9) ht9⟩
        case measure => simp [intOf]; omega
      · go_wp2_with fail
        go_ret2
        have hle := once_le T L (i + 1)
        rw [once_snoc hlt] at hle
        have hn0 := HT1.out.lt.1
        have b1 : Below n0 w w1 := hb01.mono HT.out.lt.1
        have b2 : Below n0 w1 wr := HAL.out.tch.below hn0 (fun k hk e => by
          rcases e with e | e
          · have := HT1.out.tk_ge e; omega
          · have := HT.out.lt.1; omega)
        have b3 : Below n0 wr W5 := hb5.mono (by have := HAL.out.tch.size; omega)
        have b4 : Below n0 W5 W6 := HT6.out.below (by have := HAL.out.tch.size; have := hb5.size; omega) (fun k hk e => by have := (HTS.out.below hb5).tk_ge e; omega)
        exact ⟨fun h => by omega, fun _ => ⟨rfl, ((b1.trans b2).trans b3).trans b4⟩⟩
    · have hin : i = T.length := by omega
      subst hin
      have hou := HAL.out.out
      have hlen := HAL.out.len
      have htk : T.take T.length = T := List.take_length
      rw [htk] at hou hlen
      obtain ⟨vn1, hts, hv1⟩ := HAL.out.ts
      rw [htk] at hts
      obtain ⟨Ao, co, rfl, hts2⟩ := TSl.of_own hou
      have HTS2 := Lib.hid hts2
      have HTS := Lib.hid hts
      have HV1 := Lib.hid hv1
      clear hou hts hv1 htk hts2
      go_wp2_with fail
      go_ret2
      refine ⟨fun _ => ⟨Ao, co, vn1, rfl, HTS.out.up HAL.out.tch.size, HTS2.out, ((Tch.of_below hb01).mono (fun i hi e => by omega)).trans HAL.out.tch (fun j hj e => e.resolve_right (by omega)), fun j hj hjl => HV1.out j hj (by omega)⟩, fun h => by omega⟩
end Go.Proofs.YtamhjgkigjpbhaaDoor
