/- Texts that stand one behind the other, in one file. -/
import Derived.Test.YtiebpncpdbnelaaDoorAu13
import Derived.Test.YtiebpncpdbnelaaDoorGr16
set_option maxHeartbeats 4000000
set_option maxRecDepth 100000
namespace Go.Proofs.YtiebpncpdbnelaaDoor
open Go.RowKit
theorem rndStep_any (_G : Gph) (ai ae al : Option Addr) (ni ci ne ce nl cl : Nat) (out : List Int) (_last : Int) (_goal : List Bool) (p : List Int × Bool) (ob base : Nat) (bo oo no co : Nat) (gb vb : Nat) (Av : Option Addr) (nv cv : Nat) (w : World)
  (g0 : w.cell? ⟨gb, 0, none⟩ = some (.slice ai ni ci)) (g1 : w.cell? ⟨gb, 1, none⟩ = some (.slice ae ne ce)) (g2 : w.cell? ⟨gb, 2, none⟩ = some (.slice al nl cl))
  (hgb : gb < w.1.size) (hvb : vb < w.1.size) (hol : ob < w.1.size) (hbs : base ≤ w.1.size)
  (hob : w.1[ob]? = some (.cells #[.slice (some ⟨bo, oo, none⟩) no co] 22 (0, 0))) (ho : w.ownsRow base 3 1 (.slice (some ⟨bo, oo, none⟩) no co) no (icells out)) (hno : 1 ≤ no) (hn9 : no ≤ 1000000000)
  (hv : w.cell? ⟨vb, 0, none⟩ = some (.slice Av nv cv))
  (hpath : Calls Tryd.prog 68 #[.agg #[.slice ai ni ci, .slice ae ne ce, .slice al nl cl], .slice (if co = no - 1 then some ⟨bo, oo, none⟩ else some ⟨bo, oo + (no - 1), none⟩) (no - (no - 1)) (co - (no - 1)), .slice Av nv cv] w.drew (PPost w.drew p)) (hp1 : 1 ≤ p.1.length) (hp9 : p.1.length ≤ 1000000000) :
  Calls Tryd.prog 103 #[.pointer (some ⟨gb, 0, none⟩), .pointer (some ⟨ob, 0, none⟩), .pointer (some ⟨vb, 0, none⟩)] w fun e w' => (∃ r, e = .returned r) ∧ ∃ g c', w'.1[ob]? = some (.cells #[.slice (some ⟨g, 0, none⟩) (no + (p.1.length - 1)) c'] 22 (0, 0)) ∧ w'.ownsRow base 3 1 (.slice (some ⟨g, 0, none⟩) (no + (p.1.length - 1)) c') (no + (p.1.length - 1)) (icells (out ++ p.1.drop 1)) ∧ (g = bo ∨ w.1.size ≤ g) ∧ Tch (fun k => k = ob ∨ k = bo) w w' := by
 have HP := dh hpath
 have HO := dh ho
 have HOB := dh hob
 have x0 : w.cell? ⟨ob, 0, none⟩ = some (.slice (some ⟨bo, oo, none⟩) no co) := cR hob
 have wn : IntKind.i64.wrap ((no : Int) - 1) = ((no - 1 : Nat) : Int) := by rw [wI]; omega
 clear hpath ho hob
 go_enter Tryd.func103, Tryd.ntmps103
 go_upto_region 0 with fail
 refine wp_region_held_drew (S := fun w' => w'.cell? ⟨gb, 0, none⟩ = some (.slice ai ni ci) ∧ w'.cell? ⟨gb, 1, none⟩ = some (.slice ae ne ce) ∧ w'.cell? ⟨gb, 2, none⟩ = some (.slice al nl cl) ∧ w'.cell? ⟨ob, 0, none⟩ = some (.slice (some ⟨bo, oo, none⟩) no co) ∧ w'.cell? ⟨vb, 0, none⟩ = some (.slice Av nv cv)) (by kernel_rfl) ⟨g0, g1, g2, x0, hv⟩ (fun hS => ?_)
 refine tkH 0 ?_
 refine tkH 1 ?_
 refine tkH 2 ?_
 refine tkH 3 ?_
 refine tkH 4 ?_
 refine tkH 5 ?_
 refine tkH 6 ?_
 refine oneH 7 (fun K hK => ?_)
 go_simp
 refine HP.out.mono ?_
 rintro e w8 ⟨v8, rfl, ho8, hb8'⟩
 have hb8 : Below w.1.size w w8 := below_undrew hb8'
 obtain ⟨A8, c8, rfl, hs8⟩ := own_sl ho8
 have hz8 := hb8.size
 have hm8 := hs8.max
 have hc8 := hs8.cap
 unfold maxLen at hm8
 have hp1i : (1 : Int) ≤ (p.1.length : Int) := by omega
 have hc1 : 1 ≤ c8 := by omega
 have hc1i : (1 : Int) ≤ (c8 : Int) := by omega
 have HS8 := dh hs8
 have HB8 := dh hb8
 have HO8 := dh (own_below HO.out hb8)
 have x8 : w8.cell? ⟨ob, 0, none⟩ = some (.slice (some ⟨bo, oo, none⟩) no co) := bC hb8 hol x0
 have f8 : w8.frozen? ⟨ob, 0, none⟩ = false := frozen_of_row w8 ob 0 _ _ ((hb8.block ob hol).trans HOB.out)
 dsimp only
 refine hK.out _ _ ⟨bC hb8 hgb g0, bC hb8 hgb g1, bC hb8 hgb g2, x8, bC hb8 hvb hv⟩ (fun hS => ?_)
 clear ho8 hb8' hs8 hb8
 clear hK
 refine tkH 8 ?_
 refine tkH 9 ?_
 refine tkH 10 ?_
 refine tkH 11 ?_
 refine tkH 12 ?_
 refine wpAnyH_done (by kernel_rfl) ?_ _
 go_upto_region 1 with fail
 refine wp_region_U (S := fun w' => w'.cell? ⟨ob, 0, none⟩ = some (.slice (some ⟨bo, oo, none⟩) no co)) 4 (by kernel_rfl) ((x8)) (fun hS => ?_)
 refine tkU 0 [] ?_
 refine tkU 1 [] ?_
 refine tkU 2 [] ?_
 refine wpAnyU_oneD (i := 3) rfl (by kernel_rfl) (fun K hK => ?_)
 refine step_extend rfl (.tmp 16) (.tmp 18) 22 rfl base 3 1 8 sliceInt (.slice (some ⟨bo, oo, none⟩) no co) no (icells out) HO8.out.drew (by rfl) w8.1.size (if c8 = 1 then A8 else A8.map (·.add (1 * 1))) (p.1.length - 1) (c8 - 1) ((icells p.1).drop (1 * 1)) (by rfl) (HS8.out.drop hp1).drew (fun u hu => icells_one' _ u (List.mem_of_mem_drop hu)) (by omega) (by omega) (by rw [World.size_drew]; omega) ?_
 intro v9 w9 ho9 ht9 hat9 hne9
 obtain ⟨g9, c9, rfl, -⟩ := own_form ho9 (by omega)
 have hobn : ob ≠ bo := fun e => own_ne_blk HO.out HOB.out (by decide) (by rw [e]; rfl)
 have hb9 : w9.1[ob]? = some (.cells #[.slice (some ⟨bo, oo, none⟩) no co] 22 (0, 0)) := (ht9.block ob (by rw [World.size_drew]; omega) (fun e => hobn (by simp [Value.ownBlock] at e; exact e.symm))).trans ((HB8.out.block ob hol).trans HOB.out)
 have x9 : w9.cell? ⟨ob, 0, none⟩ = some (.slice (some ⟨bo, oo, none⟩) no co) := cR hb9
 have f9 : w9.frozen? ⟨ob, 0, none⟩ = false := frozen_of_row w9 ob 0 _ _ hb9
 have l9 : ob < w9.1.size := (aI.1 hb9).1
 have HO9 := dh ho9
 have HT9 := dh ht9
 have HB9 := dh hb9
 have HAT9 := dh hat9
 clear ho9 ht9 hb9 hat9 hne9
 refine hK.out _ _ x9 (fun hS => ?_)
 clear hK
 refine wpAnyU_lastD (i := 4) rfl (by kernel_rfl) (by kernel_rfl) (fun K hK => ?_)
 go_simp
 refine hK.out _ _ ?_
 clear hK
 refine wpAnyU_done (by kernel_rfl) ?_
 clear hS
 have hfin : Hid (∃ g c', (w9.setCell ⟨ob, 0, none⟩ (.slice (some ⟨g9, 0, none⟩) (no + (p.1.length - 1)) c9)).1[ob]? = some (.cells #[.slice (some ⟨g, 0, none⟩) (no + (p.1.length - 1)) c'] 22 (0, 0)) ∧ (w9.setCell ⟨ob, 0, none⟩ (.slice (some ⟨g9, 0, none⟩) (no + (p.1.length - 1)) c9)).ownsRow base 3 1 (.slice (some ⟨g, 0, none⟩) (no + (p.1.length - 1)) c') (no + (p.1.length - 1)) (icells (out ++ p.1.drop 1)) ∧ (g = bo ∨ w.1.size ≤ g) ∧ Tch (fun k => k = ob ∨ k = bo) w (w9.setCell ⟨ob, 0, none⟩ (.slice (some ⟨g9, 0, none⟩) (no + (p.1.length - 1)) c9))) := dh (by
  refine ⟨g9, c9, by rw [heap_setCell_same w9 ob 0 _ _ _ HB9.out]; rfl, ?_, ?_, ?_⟩
  ·have e : icells (out ++ p.1.drop 1) = icells out ++ (icells p.1).drop (1 * 1) := by simp [icells]
   rw [e]
   exact own_tch HO9.out (tch_cell (w := w9) ob 0 _) (fun g hg e => by have e : g = ob := e; exact own_ne_blk HO9.out HB9.out (by decide) (by rw [hg, e]))
  ·rcases HAT9.out with h9 | h9
   ·left; simp [Value.ownBlock] at h9; exact h9
   ·right; simp [Value.ownBlock] at h9; have := HB8.out.size; omega
  ·refine Tch.then_ (Tch.then_ (below_tch HB8.out) (Tch.wide (Tch.undrew HT9.out) (fun k hk => .inr (by simp [Value.ownBlock] at hk; exact hk.symm)))) (Tch.wide (tch_cell (w := w9) ob 0 _) (fun k hk => .inl hk)))
 clear x9 f9 l9 x8 f8
 go_wp2_with fail
 all_goals exact ⟨rfl, _, by simp [results, Tryd.results103, go_sem]; rfl, ⟨_, rfl⟩, (by have h := hfin.out; rwa [List.drop_one] at h)⟩
end Go.Proofs.YtiebpncpdbnelaaDoor
namespace Go.Proofs.YtiebpncpdbnelaaDoor
theorem rnd_path {E : List (List Nd)} {part : List Nat} {m b : Nat} {goal : List Bool} (hl : ∀ x, x ∈ part ↔ x < E.length ∧ Mut E m x) (hb : b ∈ part) (hg : ∃ k ∈ part, goal.getD k false = true) :
  ∃ (p : List Nat) (c : Nat), pathE (innerE E part) goal [(b : Int)] = (natI (p ++ [c]), true) ∧ NWay (Arc (innerE E part)) b p c ∧ goal.getD c false = true ∧ p.length < E.length := by
 obtain ⟨k, hk, hgk⟩ := hg
 have h1 := (hl b).1 hb
 have h2 := (hl k).1 hk
 have hlead : Lead (Arc E) b k := h1.2.2.trans h2.2.1
 have h : (pathE (innerE E part) goal [(b : Int)]).2 = true := path_iff.2 ⟨b, k, by simp, by rw [innerE_len]; exact h1.1, by rw [innerE_len]; exact h2.1, hgk, lead_inner hl hb hk hlead⟩
 obtain ⟨a, c, p, e, hw, ha, -, -, hc, hp⟩ := path_way h
 rw [mS] at ha
 have ha : a = b := by omega
 subst ha
 exact ⟨p, c, e, hw, hc, by rwa [innerE_len] at hp⟩
end Go.Proofs.YtiebpncpdbnelaaDoor
namespace Go.Proofs.YtiebpncpdbnelaaDoor
open Go.RowKit Go.Shelf
def setsF (f : Nat → Bool) (g : List Bool) (l : List Nat) : List Bool := l.foldl (fun r y => r.set y (f y)) g
theorem setsF_len (f : Nat → Bool) (g : List Bool) (l : List Nat) : (setsF f g l).length = g.length := by
 unfold setsF
 induction l generalizing g with
 | nil => rfl
 | cons x l ih => rw [List.foldl_cons, ih, List.length_set]
theorem setsF_snoc (f : Nat → Bool) (g : List Bool) {l : List Nat} {k : Nat} (hk : k < l.length) : setsF f g (l.take (k + 1)) = (setsF f g (l.take k)).set l[k] (f l[k]) := by
 unfold setsF
 rw [take_snoc l k hk, List.foldl_append]; rfl
theorem setsF_at' (f : Nat → Bool) (l : List Nat) {x : Nat} : ∀ (g : List Bool), x < g.length → (x ∈ l ∨ g.getD x false = f x) → (setsF f g l).getD x false = f x := by
 induction l with
 | nil => intro g _ h; exact h.elim (fun h => by cases h) id
 | cons y l ih =>
  intro g hl h
  unfold setsF at ih ⊢
  rw [List.foldl_cons]
  refine ih _ (by rw [List.length_set]; exact hl) ?_
  by_cases e : y = x
  ·subst e
   right
   rw [gD, List.getElem?_set_self hl]; rfl
  ·rcases h with h | h
   ·rcases List.mem_cons.1 h with h | h
    ·exact absurd h.symm e
    ·exact .inl h
   ·right
    rw [gD, List.getElem?_set_ne e, ← gD]; exact h
theorem setsF_at (f : Nat → Bool) (g : List Bool) (l : List Nat) {x : Nat} (hx : x ∈ l) (hl : x < g.length) : (setsF f g l).getD x false = f x := setsF_at' f l g hl (.inl hx)
theorem inner_row {E : List (List Nd)} {part : List Nat} {K : Nat} (hr : ∀ l ∈ E, l.length ≤ K) : ∀ l ∈ innerE E part, l.length ≤ K := by
 intro l hl
 obtain ⟨i, hi, rfl⟩ := List.mem_map.1 hl
 have hi := List.mem_range.1 hi
 split
 ·refine Nat.le_trans (List.length_filter_le _ _) (hr _ ?_)
  rw [gD, gE hi]; exact mM hi
 ·exact Nat.zero_le _
theorem rnd_go {E : List (List Nd)} {part ins done out : List Nat} {v m b : Nat} {goal : List Bool} (h : Rnd0 E part ins v done out) (hb : out.getLast? = some b) (hl : ∀ x, x ∈ part ↔ x < E.length ∧ Mut E m x) (hg : ∃ k ∈ part, goal.getD k false = true) :
  ∃ (p : List Nat) (c : Nat), pathE (innerE E part) goal [(b : Int)] = (natI (p ++ [c]), true) ∧ Rnd0 E part ins v done (out ++ (p ++ [c]).drop 1) ∧ (out ++ (p ++ [c]).drop 1).getLast? = some c ∧ goal.getD c false = true ∧ c ∈ part ∧ p.length < E.length := by
 have hbp : b ∈ part := by
  obtain ⟨p, b', rfl, -, h2, -⟩ := h
  rw [List.getLast?_append, List.getLast?_singleton] at hb
  simp at hb
  exact hb ▸ h2
 obtain ⟨p, c, h1, h2, h3, h4⟩ := rnd_path hl hbp hg
 obtain ⟨h5, h6⟩ := h.step hb h2
 exact ⟨p, c, h1, h5, h6, h3, way_part h2 hbp, h4⟩
theorem Rnd0.last {E : List (List Nd)} {part ins done out : List Nat} {v : Nat} (h : Rnd0 E part ins v done out) : ∃ o b, out = o ++ [b] ∧ b ∈ part := by
 obtain ⟨p, b, rfl, -, h2, -⟩ := h
 exact ⟨p, b, rfl, h2⟩
theorem tch_drewR {S : Nat → Prop} {w w' : World} (h : Tch S w w') : Tch S w w'.drew := ⟨h.os, h.tape, h.output, h.size, h.block⟩
theorem own_ne_own {w : World} {base base' e e' size size' g o c n g' o' c' n' : Nat} {xs ys : List Value} (h : w.ownsRow base e size (.slice (some ⟨g, o, none⟩) n c) n xs) (k : w.ownsRow base' e' size' (.slice (some ⟨g', o', none⟩) n' c') n' ys) (hne : e ≠ e') : g ≠ g' := by
 rcases k.2 with ⟨hn, -⟩ | ⟨g8, c8, cur8, hn, -, hgb, -⟩
 ·cases hn
 ·cases hn
  exact fun e => own_ne_blk h hgb hne (by rw [e]; rfl)
theorem first_arc {E : List (List Nd)} {part : List Nat} {b y : Nat} (h : Arc (innerE E part) b y) (hEn : ∀ l ∈ E, ∀ e ∈ l, isNd E.length e.op = true) : ∃ (e : Nd) (r : List Nd) (c : Nat), (innerE E part)[b]? = some (e :: r) ∧ e.op = (c : Int) ∧ Arc (innerE E part) b c := by
 obtain ⟨h1, h2, h3⟩ := h
 have hb : (innerE E part)[b]? = some ((innerE E part).getD b []) := by rw [gD, gE h1]; rfl
 have hmem : ∀ e ∈ (innerE E part).getD b [], isNd E.length e.op = true := by
  intro e he
  rw [innerE_len] at h1
  rw [innerE_at h1] at he
  split at he
  ·refine hEn (E.getD b []) ?_ e (List.mem_filter.1 he).1
   rw [gD, gE h1]; exact mM h1
  ·cases he
 cases hr : (innerE E part).getD b [] with
 | nil => rw [hr] at h3; cases h3
 | cons e r =>
  rw [hr] at hmem hb
  have h4 := isNd_iff.1 (hmem e (List.mem_cons_self ..))
  refine ⟨e, r, e.op.toNat, hb, by omega, h1, by rw [innerE_len]; omega, ?_⟩
  rw [hr]
  simp only [tgts, List.map_cons, List.mem_cons]
  left; omega
theorem own_take {w : World} {base e size g n c m : Nat} {xs : List Value} (h : w.ownsRow base e size (.slice (some ⟨g, 0, none⟩) n c) n xs) (hm : m ≤ n) : w.ownsRow base e size (.slice (some ⟨g, 0, none⟩) m c) m (xs.take (m * size)) := by
 have hl := h.1
 have hmn : m * size ≤ n * size := Nat.mul_le_mul_right _ hm
 refine ⟨by rw [List.length_take, hl]; exact Nat.min_eq_left hmn, ?_⟩
 rcases h.2 with ⟨hn, -⟩ | ⟨g8, c8, cur, hn, hb, hg, h1, h2, h3, h4⟩
 ·cases hn
 ·cases hn
  refine .inr ⟨g, c, cur, rfl, hb, hg, Nat.le_trans hm h1, h2, h3, ?_⟩
  rw [← h4, List.take_take, Nat.min_eq_left hmn]
theorem bnd_step {a b n z : Nat} (h : a ≤ 1 + n * z) (h2 : b ≤ a + z) : b ≤ 1 + (n + 1) * z := by rw [Nat.add_mul, Nat.one_mul]; omega
def RSt (E : List (List Nd)) (part ins : List Nat) (v Bs ob gq nc : Nat) (done : List Nat) (N : Nat → Prop) (X : World) : Prop :=
 ∃ (out : List Nat) (no bo oo co : Nat) (gl : List Bool), no = out.length ∧ X.1[ob]? = some (.cells #[.slice (some ⟨bo, oo, none⟩) no co] 22 (0, 0)) ∧ X.ownsRow Bs 3 1 (.slice (some ⟨bo, oo, none⟩) no co) no (icells (natI out)) ∧
  (N ob ∧ N bo) ∧ Rnd0 E part ins v done out ∧ no ≤ 1 + done.length * (E.length - 1) ∧ gl.length = nc ∧ X.ownsRow Bs 4 1 (.slice (some ⟨gq, 0, none⟩) nc nc) nc (bcells gl)
theorem cells_own {β : Type} (k B : Nat) (cs : Array Value) (t : TypeId) (f : Nat × Nat) : OwnFrom B (fun (_ : β) W => W.1[k]? = some (.cells cs t f)) := by
 intro s X Y row hr hg hrow
 refine (hg.block k (aI.1 hr).1 (fun e' => ?_)).trans hr
 obtain ⟨-, o, ho, hc⟩ := hrow k e'.symm
 have hr : X.1[k]? = some (.cells cs t f) := hr
 rw [hr] at ho; cases ho; cases hc
theorem rst_own (E : List (List Nd)) (part ins : List Nat) (v Bs ob gq nc B : Nat) : OwnFrom B (fun (s : List Nat × (Nat → Prop)) W => RSt E part ins v Bs ob gq nc s.1 s.2 W) := by
 intro s X Y row hr hg hrow
 obtain ⟨out, no, bo, oo, co, gl, h1, h2, h3, h4, h5, h6, h7, h8⟩ := hr
 exact ⟨out, no, bo, oo, co, gl, h1, cells_own (β := Unit) ob B _ _ _ () X Y row h2 hg hrow, row_own _ _ _ _ _ _ _ () X Y row h3 hg hrow, h4, h5, h6, h7, row_own _ _ _ _ _ _ _ () X Y row h8 hg hrow⟩
theorem rndGo_any (E : List (List Nd)) (part ins : List Nat) (v mm : Nat) (ai ae al : Option Addr) (ni ci ne ce nl cl : Nat) (done out : List Nat) (gl : List Bool) (ob base : Nat) (bo oo no co : Nat) (gb vb gq : Nat) (nv cv K : Nat) (w : World) (B : Nat)
  (hG : GrRd w B ai ni ci ae ne ce al nl cl ⟨[], innerE E part, []⟩) (hB : B ≤ w.1.size)
  (g0 : w.cell? ⟨gb, 0, none⟩ = some (.slice ai ni ci)) (g1 : w.cell? ⟨gb, 1, none⟩ = some (.slice ae ne ce)) (g2 : w.cell? ⟨gb, 2, none⟩ = some (.slice al nl cl))
  (hgb : gb < w.1.size) (hvb : vb < w.1.size) (hol : ob < w.1.size) (hbs : base ≤ w.1.size)
  (hob : w.1[ob]? = some (.cells #[.slice (some ⟨bo, oo, none⟩) no co] 22 (0, 0))) (ho : w.ownsRow base 3 1 (.slice (some ⟨bo, oo, none⟩) no co) no (icells (natI out))) (hno : no = out.length) (hn9 : no ≤ 100000000)
  (hv : w.cell? ⟨vb, 0, none⟩ = some (.slice (some ⟨gq, 0, none⟩) nv cv)) (hgl : w.ownsRow base 4 1 (.slice (some ⟨gq, 0, none⟩) nv cv) nv (bcells gl)) (hgn : gl.length = nv) (hnv : nv ≤ 1000000000)
  (hr0 : Rnd0 E part ins v done out) (hl : ∀ x, x ∈ part ↔ x < E.length ∧ Mut E mm x) (hg : ∃ k ∈ part, gl.getD k false = true) (hEl : E.length ≤ 65536) (hr : ∀ l ∈ E, l.length ≤ K) (hK1 : E.length * K ≤ 1000000000) (hK2 : K ≤ 1000000000) :
  Calls Tryd.prog 103 #[.pointer (some ⟨gb, 0, none⟩), .pointer (some ⟨ob, 0, none⟩), .pointer (some ⟨vb, 0, none⟩)] w fun e w' => (∃ r, e = .returned r) ∧ ∃ (g c' : Nat) (out' : List Nat) (c : Nat), w'.1[ob]? = some (.cells #[.slice (some ⟨g, 0, none⟩) out'.length c'] 22 (0, 0)) ∧ w'.ownsRow base 3 1 (.slice (some ⟨g, 0, none⟩) out'.length c') out'.length (icells (natI out')) ∧ (g = bo ∨ w.1.size ≤ g) ∧ Tch (fun k => k = ob ∨ k = bo) w w' ∧
   Rnd0 E part ins v done out' ∧ out'.getLast? = some c ∧ gl.getD c false = true ∧ c ∈ part ∧ out'.length ≤ no + (E.length - 1) ∧ no ≤ out'.length := by
 obtain ⟨o, b, ho', hbp⟩ := hr0.last
 have hlast : out.getLast? = some b := by rw [ho']; simp
 obtain ⟨p, c, e1, e2, e3, e4, e5, e6⟩ := rnd_go hr0 hlast hl hg
 have hn1 : no - 1 = o.length := by rw [hno, ho']; simp
 have hno1 : 1 ≤ no := by rw [hno, ho']; simp
 obtain ⟨L1, L2, L3⟩ := hG.lens
 simp only [List.length_nil, innerE_len] at L1 L2 L3
 have hGd := hG.below (Below.drew (Below.refl B w)) lR
 obtain ⟨A9, c9, hf9, hs9⟩ := own_sl ho
 cases hf9
 obtain ⟨A8, c8, hf8, hs8⟩ := own_sl hgl
 cases hf8
 have hd := (hs9.drop (show no - 1 ≤ no by omega)).drew
 have hdl : (icells (natI out)).drop ((no - 1) * 1) = icells [(b : Int)] := by
  rw [Nat.mul_one, hn1, ho', natI_append, icells_append, List.drop_left' (by simp [icells, natI])]
  rfl
 rw [hdl] at hd
 have hpath := pathP_any ai ae al ni ci ne ce nl cl ⟨[], innerE E part, []⟩ [(b : Int)] gl _ (no - (no - 1)) (co - (no - 1)) (some ⟨gq, 0, none⟩) nv cv w.drew w.1.size (hGd.up hB) hd (by simp; omega) hs8.drew hgn.symm lR (by omega) (by omega) (by omega) (by omega) hnv K (inner_row hr) (by rw [L2]; exact hK1) hK2
 have hpe : pathG ne (farG ne (turnE (innerE E part)) (goalsG ne gl)) (innerE E part) [(b : Int)] = (natI (p ++ [c]), true) := by
  rw [← e1, L2, ← innerE_len E part]; rfl
 dsimp only at hpath
 rw [hpe] at hpath
 have hA : (if co = no - 1 then some (⟨bo, oo, none⟩ : Addr) else (some (⟨bo, oo, none⟩ : Addr)).map (·.add ((no - 1) * 1))) = (if co = no - 1 then some ⟨bo, oo, none⟩ else some ⟨bo, oo + (no - 1), none⟩) := by
  by_cases e : no - 1 = 0
  ·simp [Addr.add, e]
  ·simp [Addr.add, e]
 rw [hA] at hpath
 have hln : (natI (p ++ [c])).length = p.length + 1 := by simp [natI]
 refine (rndStep_any ⟨[], innerE E part, []⟩ ai ae al ni ci ne ce nl cl (natI out) (b : Int) gl (natI (p ++ [c]), true) ob base bo oo no co gb vb (some ⟨gq, 0, none⟩) nv cv w g0 g1 g2 hgb hvb hol hbs hob ho hno1 (by omega) hv hpath (by simp only [hln]; omega) (by simp only [hln]; omega)).mono ?_
 rintro e w' ⟨hret, g, c', h1, h2, h3, h4⟩
 have hdr : natI out ++ (natI (p ++ [c])).drop 1 = natI (out ++ (p ++ [c]).drop 1) := by
  unfold natI
  simp only [List.map_append, List.map_drop]
 have hlen : (out ++ (p ++ [c]).drop 1).length = no + ((natI (p ++ [c])).length - 1) := by
  rw [lA, List.length_drop, hln, hno, lA]; rfl
 refine ⟨hret, g, c', out ++ (p ++ [c]).drop 1, c, ?_, ?_, h3, h4, e2, e3, e4, e5, by rw [hlen, hln]; omega, by rw [hlen]; omega⟩
 ·rw [hlen]; exact h1
 ·rw [hlen, ← hdr]; exact h2
end Go.Proofs.YtiebpncpdbnelaaDoor
