/- The walks of layer 30 (auto): round. -/
import Derived.Test.YtiebpncpdbnelaaDoorZbq
set_option maxHeartbeats 8000000
set_option maxRecDepth 100000
namespace Go.Proofs.YtiebpncpdbnelaaDoor
open Go.RowKit Go.Shelf
attribute [local go_sem] Oper.semAt_some
theorem own_one {w : World} {base e : Nat} {v : Value} (hb : base ≤ w.1.size) : (w.alloc (.cells #[v] e)).ownsRow base e 1 (.slice (some ⟨w.1.size, 0, none⟩) 1 1) 1 [v] :=
 ⟨by simp, .inr ⟨w.1.size, 1, #[v], rfl, hb, heap_alloc_new w _, lR, by unfold maxLen; omega, by simp, by simp⟩⟩
theorem round_in (m : Nat) (h1m : 5 ≤ m) (ai ae al ac : Option Addr) (ni ci ne ce nl cl nc cc : Nat) (I : List Int) (E : List (List Nd)) (L ins : List Nat) (all : Nat) (part : List Nat) (Ap : Option Addr) (cp v mm : Nat) (w : World) (B : Nat)
  (h : PlayRd w B ai ni ci ae ne ce al nl cl ac nc cc I E L ins) (hps : Sl w B 1 Ap part.length cp (icells (natI part))) (hpn : part.Nodup) (hl : ∀ x, x ∈ part ↔ x < E.length ∧ Mut E mm x) (hv : v ∈ part) (hB : B ≤ w.1.size) (he : ne ≤ 65536) (hinl : ins.length = E.length) (hall : all < 2 ^ 64) (K : Nat) (hr : ∀ l ∈ E, l.length ≤ K) (hEn : ∀ l ∈ E, ∀ e ∈ l, isNd E.length e.op = true) (hK2 : ne * K ≤ 1000000000) (hK3 : K ≤ 1000000000)
  (hT : TabAt 0 Lib.deBruijn64tab w) (hg : 0 < w.1.size) (h64 : ∀ x, ins.getD x 0 < 2 ^ 64) (hcy : ∀ x ∈ part, ∃ y ∈ part, Arc E x y) (hmet : ∀ j ∈ bitsL all, ∃ k ∈ part, (ins.getD k 0).testBit j = true) :
  CallsIn Fence.wide m Tryd.prog 69 #[.agg #[.slice ai ni ci, .slice ae ne ce, .slice al nl cl, .slice ac nc cc, .int .u64 (all : Int)], .slice Ap part.length cp, .int .i64 (v : Int)] w fun e w' => ∃ (R : List Nat) (Ar : Option Addr) (cr : Nat), e = .returned (.slice Ar R.length cr) ∧ w'.ownsRow w.1.size 3 1 (.slice Ar R.length cr) R.length (icells (natI R)) ∧ Below w.1.size w w' ∧
   R ≠ [] ∧ R.length ≤ 1 + ((bitsL all).length + 1) * (E.length - 1) ∧ NWay (Arc (innerE E part)) v R v ∧ ∀ j ∈ bitsL all, ∃ u ∈ R, (ins.getD u 0).testBit j = true := by
 obtain ⟨np, hnp⟩ := xQ part.length
 have HNP := dh hnp
 have hps0 := hps
 rw [hnp] at hps ⊢
 obtain ⟨hb0, x0, y0, z0⟩ := two_new w (.cells #[.slice ai ni ci, .slice ae ne ce, .slice al nl cl, .slice ac nc cc, .int .u64 (all : Int)] 74) (.cells #[.slice Ap np cp] 22)
 obtain ⟨W0, hW0⟩ := xQ ((w.alloc (.cells #[.slice ai ni ci, .slice ae ne ce, .slice al nl cl, .slice ac nc cc, .int .u64 (all : Int)] 74)).alloc (.cells #[.slice Ap np cp] 22))
 rw [hW0] at hb0 x0 y0 z0
 have HR0 := dh (h.below hb0 hB)
 have HPS := dh (hps.below hb0 hB)
 have hin := inner_any ai ae al ni ci ne ce nl cl _ part Ap cp W0 B HR0.out.g (hps0.below hb0 hB) hpn (fun x hx => by rw [HR0.out.ene]; exact ((hl x).1 hx).1) (by omega) (by omega) K hr hEn hK3
 rw [hnp] at hin
 have HIN := dh hin
 have HW0 := dh hW0
 have HB0 := dh hb0
 have HX0 := dh x0
 have HY0 := dh y0
 have HZ0 := dh z0
 have HG := dh hg
 have HTB := dh hT
 have HL := dh hl
 have HV := dh hv
 have HMET := dh hmet
 have HCY := dh hcy
 have HEN := dh hEn
 have HRK := dh hr
 have H64 := dh h64
 clear hW0 hb0 x0 y0 z0 h hT hg hl hv hmet hcy hEn hr hps hpn hps0 hin hnp h64
 refine callsIn_of_wp_marks Tryd.func69 rfl trivial ?_ rfl
 refine wpIn_wide.2 ?_
 simp only [Tryd.ntmps69, List.size_toArray, List.length_cons, List.length_nil, Nat.reduceAdd, Nat.reduceSub, Array.replicate_succ, Array.replicate_zero, List.push_toArray, List.append_toArray, List.nil_append, List.cons_append]
 go_upto_region 1 with fail
 rw [HW0.out]
 have q0 : W0.cell? ⟨w.1.size, 0, none⟩ = some (.slice ai ni ci) := cR HX0.out
 have q1 : W0.cell? ⟨w.1.size, 1, none⟩ = some (.slice ae ne ce) := cR HX0.out
 have q2 : W0.cell? ⟨w.1.size, 2, none⟩ = some (.slice al nl cl) := cR HX0.out
 have p0 : W0.cell? ⟨w.1.size + 1, 0, none⟩ = some (.slice Ap np cp) := cR HY0.out
 go_wp2_with fail
 refine HIN.out.mono ?_
 rintro e w1 ⟨bi, mi, di, be, me, de, bl, ml, dl, rfl, hgr, hb1, -⟩
 have hz1 := hb1.size
 have HGR := dh hgr
 have HB1 := dh hb1
 obtain ⟨W2, hW2⟩ := xQ (w1.alloc (.cells #[.slice bi mi di, .slice be me de, .slice bl ml dl] 67))
 have HW2 := dh hW2
 clear hgr hb1 hW2 q0 q1 q2 p0
 go_upto_region 2 with fail
 go_upto_region 3 with fail
 have HA := dh (heap_alloc_new w1 (.cells #[.slice bi mi di, .slice be me de, .slice bl ml dl] 67))
 obtain ⟨W3, hW3⟩ := xQ (((w1.alloc (.cells #[.slice bi mi di, .slice be me de, .slice bl ml dl] 67)).alloc (.cells #[.int .i64 (v : Int)] 3)).alloc (.cells #[.slice (some ⟨w1.1.size + 1, 0, none⟩) 1 1] 22))
 have hb3 : Below w1.1.size w1 W3 := by rw [← hW3]; exact ((bR.alloc lR _).alloc (by simp) _).alloc (by simp; omega) _
 have hz3 : W3.1.size = w1.1.size + 3 := by rw [← hW3]; simp
 have f3G : W3.1[w1.1.size]? = some (.cells #[.slice bi mi di, .slice be me de, .slice bl ml dl] 67 (0, 0)) := by
  rw [← hW3, Below.heap_alloc _ _ _ (by simp; omega), Below.heap_alloc _ _ _ (by simp)]
  exact heap_alloc_new w1 _
 have f3R : W3.ownsRow w1.1.size 3 1 (.slice (some ⟨w1.1.size + 1, 0, none⟩) 1 1) 1 (icells (natI [v])) := by
  rw [← hW3]
  have h := own_one (w := w1.alloc (.cells #[.slice bi mi di, .slice be me de, .slice bl ml dl] 67)) (base := w1.1.size) (e := 3) (v := .int .i64 (v : Int)) (by simp)
  rw [World.size_alloc] at h
  exact h.alloc _
 have f3B : W3.1[w1.1.size + 1 + 1]? = some (.cells #[.slice (some ⟨w1.1.size + 1, 0, none⟩) 1 1] 22 (0, 0)) := by
  rw [← hW3]
  have h := heap_alloc_new ((w1.alloc (.cells #[.slice bi mi di, .slice be me de, .slice bl ml dl] 67)).alloc (.cells #[.int .i64 (v : Int)] 3)) (.cells #[.slice (some ⟨w1.1.size + 1, 0, none⟩) 1 1] 22)
  rw [World.size_alloc, World.size_alloc] at h
  exact h
 have F3G := dh f3G
 have F3R := dh f3R
 have F3B := dh f3B
 clear f3G f3R f3B
 rw [hW3]
 have HB13 := dh (HB1.out.trans (hb3.mono hz1))
 have q3 : W3.cell? ⟨w.1.size, 3, none⟩ = some (.slice ac nc cc) := by
  rw [cell_of_row _ _ _ _ _ (0, 0) ((HB13.out.block w.1.size (by have := HZ0.out; omega)).trans HX0.out)]; rfl
 have hnc : nc ≤ 65536 := by have h1 := HR0.out.enc; have h2 := HR0.out.ene; omega
 have hmk := run_make_row' (P := Tryd.prog) 54 4 (.bool false) 1 Tryd.underlying54 infoBool rfl .i64 .i64 nc (by omega) (by omega)
 have HW3 := dh hW3
 have HB3 := dh hb3
 clear hW3 hb3
 go_upto_region 4 with fail
 obtain ⟨W5, hW5⟩ := xQ ((W3.alloc (.cells (madeCells #[.bool false] nc) 4)).alloc (.cells #[.slice (some ⟨w1.1.size + 3, 0, none⟩) nc nc] 54))
 have hb5 : Below W3.1.size W3 W5 := by rw [← hW5]; exact (bR.alloc lR _).alloc (by simp) _
 have hz5 : W5.1.size = W3.1.size + 2 := by rw [← hW5]; simp
 have f5Q : W5.ownsRow w1.1.size 4 1 (.slice (some ⟨w1.1.size + 3, 0, none⟩) nc nc) nc (bcells (List.replicate nc false)) := by
  rw [← hW5]
  have h := (own_made (w := W3) (base := w1.1.size) (e := 4) (v := .bool false) (n := nc) (by omega) (by unfold maxLen; omega)).alloc (.cells #[.slice (some ⟨w1.1.size + 3, 0, none⟩) nc nc] 54)
  rw [hz3] at h
  have e : bcells (List.replicate nc false) = List.replicate nc (.bool false) := by simp [bcells]
  rw [e]
  exact h
 have f5V : W5.1[w1.1.size + 3 + 1]? = some (.cells #[.slice (some ⟨w1.1.size + 3, 0, none⟩) nc nc] 54 (0, 0)) := by
  rw [← hW5]
  have h := heap_alloc_new (W3.alloc (.cells (madeCells #[.bool false] nc) 4)) (.cells #[.slice (some ⟨w1.1.size + 3, 0, none⟩) nc nc] 54)
  rw [World.size_alloc, hz3] at h
  exact h
 have F5Q := dh f5Q
 have F5V := dh f5V
 clear f5Q f5V
 rw [hW5]
 have HW5 := dh hW5
 have HB5 := dh hb5
 clear hW5 hb5 hmk q3
 have HEA := dh (each_any all)
 obtain ⟨W6, hW6⟩ := xQ ((W5.alloc (.cells #[(.func (.func 103) #[] #[.pointer (some ⟨w1.1.size, 0, none⟩), .pointer (some ⟨w1.1.size + 1 + 1, 0, none⟩), .pointer (some ⟨w1.1.size + 3 + 1, 0, none⟩)])] 1)).alloc (.cells #[.int .u64 (all : Int)] 41))
 have hb6 : Below W5.1.size W5 W6 := by rw [← hW6]; exact (bR.alloc lR _).alloc (by simp) _
 have hz6 : W6.1.size = w1.1.size + 3 + 2 + 2 := by rw [← hW6]; simp; omega
 have f6C : W6.1[w1.1.size + 3 + 2]? = some (.cells #[(.func (.func 103) #[] #[.pointer (some ⟨w1.1.size, 0, none⟩), .pointer (some ⟨w1.1.size + 1 + 1, 0, none⟩), .pointer (some ⟨w1.1.size + 3 + 1, 0, none⟩)])] 1 (0, 0)) := by
  rw [← hW6, Below.heap_alloc _ _ _ (by rw [World.size_alloc]; omega)]
  have h := heap_alloc_new W5 (.cells #[(.func (.func 103) #[] #[.pointer (some ⟨w1.1.size, 0, none⟩), .pointer (some ⟨w1.1.size + 1 + 1, 0, none⟩), .pointer (some ⟨w1.1.size + 3 + 1, 0, none⟩)])] 1)
  rw [hz5, hz3] at h
  exact h
 have f6E : W6.cell? ⟨w1.1.size + 3 + 2 + 1, 0, none⟩ = some (.int .u64 (all : Int)) := by
  rw [← hW6]
  have h := (Boxed.new (W5.alloc (.cells #[(.func (.func 103) #[] #[.pointer (some ⟨w1.1.size, 0, none⟩), .pointer (some ⟨w1.1.size + 1 + 1, 0, none⟩), .pointer (some ⟨w1.1.size + 3 + 1, 0, none⟩)])] 1)) 41 (.int .u64 (all : Int))).cell
  rw [World.size_alloc, hz5, hz3] at h
  exact h
 have F6C := dh f6C
 have F6E := dh f6E
 have HBW6 := dh (HB3.out.trans ((HB5.out.trans (hb6.mono (show W3.1.size ≤ W5.1.size by omega))).mono (show w1.1.size ≤ W3.1.size by omega)))
 have F6G := dh ((((HB5.out.trans (hb6.mono (show W3.1.size ≤ W5.1.size by omega)))).block w1.1.size (by omega)).trans F3G.out)
 have F6R := dh (own_below F3R.out (HB5.out.trans (hb6.mono (show W3.1.size ≤ W5.1.size by omega))))
 have F6B := dh ((((HB5.out.trans (hb6.mono (show W3.1.size ≤ W5.1.size by omega)))).block (w1.1.size + 1 + 1) (by omega)).trans F3B.out)
 have F6Q := dh (own_below F5Q.out hb6)
 have F6V := dh ((hb6.block (w1.1.size + 3 + 1) (by omega)).trans F5V.out)
 have HB06 := dh (HB1.out.trans (HBW6.out.mono hz1))
 have hx6 : W6.1[w.1.size]? = some (.cells #[.slice ai ni ci, .slice ae ne ce, .slice al nl cl, .slice ac nc cc, .int .u64 (all : Int)] 74 (0, 0)) := (HB06.out.block w.1.size (by have := HZ0.out; omega)).trans HX0.out
 have hy6 : W6.1[w.1.size + 1]? = some (.cells #[.slice Ap np cp] 22 (0, 0)) := (HB06.out.block (w.1.size + 1) (by have := HZ0.out; omega)).trans HY0.out
 have HX6 := dh hx6
 have HY6 := dh hy6
 have HZ6 := dh hz6
 have HW6 := dh hW6
 have q5 : (W5.alloc (.cells #[(.func (.func 103) #[] #[.pointer (some ⟨w1.1.size, 0, none⟩), .pointer (some ⟨w1.1.size + 1 + 1, 0, none⟩), .pointer (some ⟨w1.1.size + 3 + 1, 0, none⟩)])] 1)).cell? ⟨w.1.size, 4, none⟩ = some (.int .u64 (all : Int)) := by
  have h : W5.1[w.1.size]? = some (.cells #[.slice ai ni ci, .slice ae ne ce, .slice al nl cl, .slice ac nc cc, .int .u64 (all : Int)] 74 (0, 0)) := ((HB13.out.trans (HB5.out.mono (show W0.1.size ≤ W3.1.size by omega))).block w.1.size (by have := HZ0.out; omega)).trans HX0.out
  exact cell_al _ (cR h)
 clear hb6 f6C f6E hW6 hx6 hy6 hz6
 go_upto_region 5 with fail
 go_wp2_with fail
 refine (HEA.out _).mono ?_
 rintro e w' ⟨rfl, rfl⟩
 go_wp2_with fail
 rw [HW6.out]
 clear q5
 have hz6 := HZ6.out
 have hW0s := HZ0.out
 have hWW : Below w.1.size w W6 := HB0.out.trans (HB06.out.mono (show w.1.size ≤ W0.1.size by omega))
 have hT6 : TabAt 0 Lib.deBruijn64tab W6 := fun x hx => bC hWW HG.out (HTB.out x hx)
 have HWW := dh hWW
 have hgW := HG.out
 have hM0 : ∀ x, (fun x => x = w1.1.size + 1 ∨ x = w1.1.size + 1 + 1 ∨ x = w1.1.size + 3) x → x < W6.1.size := fun x e => by rcases e with e | e | e <;> omega
 have hM1 : ∀ x, (fun x => x = w1.1.size + 1 ∨ x = w1.1.size + 1 + 1 ∨ x = w1.1.size + 3) x → w1.1.size ≤ x := fun x e => by rcases e with e | e | e <;> omega
 have hgM : ¬ (fun x => x = w1.1.size + 1 ∨ x = w1.1.size + 1 + 1 ∨ x = w1.1.size + 3) 0 := fun e => by have := hM1 _ e; omega
 refine (wpIn_wide (n := m)).1 ?_
 refine wpIn_rangeFunc_T rfl (by omega) (gf := 113) (lb := #[.pointer (some ⟨w1.1.size + 3 + 2 + 1, 0, none⟩)]) rfl trivial (enters_of Tryd.func113 (by kernel_rfl) rfl)
  (each_T (m - 1) (by omega) (w1.1.size + 3 + 2 + 1) all hall (fun x => x = w1.1.size + 1 ∨ x = w1.1.size + 1 + 1 ∨ x = w1.1.size + 3) W6 hM0 (by omega) hgM (by omega) F6E.out hT6) hM0 (fun _ => rfl)
  (fun (s' : List Nat × (Nat → Prop)) X => RSt E part ins v w1.1.size (w1.1.size + 1 + 1) (w1.1.size + 3) nc s'.1 s'.2 X ∧ (Rnd (fun x => x = w1.1.size + 1 ∨ x = w1.1.size + 1 + 1 ∨ x = w1.1.size + 3) W6 s'.2 X ∧ s'.2 (w1.1.size + 3)))
  (fun c s' X => False)
  (OwnFrom.and (rst_own E part ins v _ _ _ _ _) (OwnFrom.and (ownFrom_rnd lR (fun s' : List Nat × (Nat → Prop) => s'.2)) (ownFrom_pure _ _)))
  (fun c _ _ _ _ h _ _ => h)
  ⟨⟨[v], 1, w1.1.size + 1, 0, 1, List.replicate nc false, rfl, F6B.out, F6R.out, ⟨.inr (.inl rfl), .inl rfl⟩, Rnd0.start HV.out, Nat.le_add_right _ _, by simp, F6Q.out⟩, Rnd.refl hM0, .inr (.inr rfl)⟩
  (fun (x : Nat) a' _ => a' = { tmps := #[.agg #[.slice ai ni ci, .slice ae ne ce, .slice al nl cl, .slice ac nc cc, .int .u64 (all : Int)], .slice Ap np cp, .int .i64 (v : Int), .pointer (some ⟨w.1.size, 0, none⟩), .pointer (some ⟨w.1.size + 1, 0, none⟩), undef, .slice none 0 0, .pointer (some ⟨w1.1.size, 0, none⟩), .pointer (some ⟨w1.1.size + 1 + 1, 0, none⟩), .pointer (some ⟨w1.1.size + 3 + 1, 0, none⟩), .pointer (some ⟨w1.1.size + 3 + 2, 0, none⟩), .int .i64 (x : Int), undef, undef, undef, undef, undef, .pointer (some ⟨w.1.size, 0, none⟩), .agg #[.slice ai ni ci, .slice ae ne ce, .slice al nl cl], .slice Ap np cp, .agg #[.slice bi mi di, .slice be me de, .slice bl ml dl], .int .i64 (v : Int), .slice (some ⟨w1.1.size + 1, 0, none⟩) 1 1, .pointer (some ⟨w.1.size, 3, none⟩), .slice ac nc cc, .int .i64 (nc : Int), .slice (some ⟨w1.1.size + 3, 0, none⟩) nc nc, .func (.func 103) #[] #[.pointer (some ⟨w1.1.size, 0, none⟩), .pointer (some ⟨w1.1.size + 1 + 1, 0, none⟩), .pointer (some ⟨w1.1.size + 3 + 1, 0, none⟩)], .pointer (some ⟨w.1.size, 4, none⟩), .int .u64 (all : Int), .func (.func 113) #[] #[.pointer (some ⟨w1.1.size + 3 + 2 + 1, 0, none⟩)], .int .i64 (x : Int), undef, undef, undef, undef, undef, undef, undef, undef, undef, undef, undef, undef, undef, undef, undef, undef, undef, undef, undef, undef, undef, undef, undef, undef, undef, undef, undef, undef, undef, undef, undef, undef, undef, undef, undef, undef, undef, undef, undef, undef, undef, undef, undef, undef, undef, undef, undef, undef, undef, undef, undef, undef, undef, undef, undef, undef, undef, undef, undef, undef, undef], defers := [] })
  (fun _ _ _ _ _ _ hs' _ _ => hs') ?assign ?body ?done ?stop
 case assign =>
  intro l2 pre x N1 X K hi _ hK
  gi_wp2
  exact hK _ _ (Tch.refl _ _) hi rfl
 case body =>
  rintro l2 pre x N1 a2 X hl2 _ _ hNX ⟨⟨out, no, bo, oo, co, gl, hno, hob, hrow, ⟨hNob, hNbo⟩, hr0, hnb, hgl, hgrow⟩, hrnd, hNgq⟩ rfl hlen
  dsimp only at hNob hNbo hr0 hnb hrnd hNgq hrow
  have hzX := hrnd.tch.size
  have HBX := dh (HB06.out.trans ((rnd_below hrnd (show w1.1.size ≤ W6.1.size by omega) hM1).mono hz1))
  have hxm : x ∈ bitsL all := by
   obtain ⟨t, ht⟩ := hlen
   rw [← ht]; simp
  have hx64 : x < 64 := List.mem_range.1 (List.mem_filter.1 hxm).1
  have hpre : pre.length ≤ 64 := by
   have h1 := hlen.length_le
   have h2 : (bitsL all).length ≤ 64 := by
    unfold bitsL
    have := List.length_filter_le all.testBit (List.range 64)
    rwa [List.length_range] at this
   rw [lA] at h1
   omega
  have HXM := dh hxm
  have hnM : ∀ k, k < W6.1.size → ¬ (k = w1.1.size + 1 ∨ k = w1.1.size + 1 + 1 ∨ k = w1.1.size + 3) → X.1[k]? = W6.1[k]? := fun k hk he => hrnd.tch.block k hk he
  have HXX := dh ((hnM w.1.size (by omega) (by omega)).trans HX6.out)
  have HYX := dh ((hnM (w.1.size + 1) (by omega) (by omega)).trans HY6.out)
  have HGX := dh ((hnM w1.1.size (by omega) (by omega)).trans F6G.out)
  have HVX := dh ((hnM (w1.1.size + 3 + 1) (by omega) (by omega)).trans F6V.out)
  have hcc : X.1[w1.1.size + 3 + 2]? = some (.cells #[(.func (.func 103) #[] #[.pointer (some ⟨w1.1.size, 0, none⟩), .pointer (some ⟨w1.1.size + 1 + 1, 0, none⟩), .pointer (some ⟨w1.1.size + 3 + 1, 0, none⟩)])] 1 (0, 0)) := (hnM (w1.1.size + 3 + 2) (by omega) (by omega)).trans F6C.out
  have p0 : X.cell? ⟨w.1.size + 1, 0, none⟩ = some (.slice Ap np cp) := cR HYX.out
  have HCC := dh hcc
  have HNO := dh hno
  have HOB := dh hob
  have HROW := dh hrow
  have HR0' := dh hr0
  have HNB := dh hnb
  have HGL := dh hgl
  have HGR' := dh hgrow
  have HRND := dh hrnd
  have HNX := dh hNX
  have HHLEN := dh hlen
  clear hno hob hrow hr0 hnb hgl hgrow hrnd hNX hlen hxm hnM hcc
  gi_wp2
  gi_loopw [34] (fun i V' => ∃ q : Nat, q ≤ np ∧ i = .int .i64 (q : Int) ∧ Hid (V'.ownsRow w1.1.size 4 1 (.slice (some ⟨w1.1.size + 3, 0, none⟩) nc nc) nc (bcells (setsF (fun y => (ins.getD y 0).testBit x) gl (part.take q)))) ∧ Hid (Tch (fun k => k = w1.1.size + 3) X V')) (fun i _ => np - (intOf i).toNat)
  case atStart => exact ⟨0, by omega, rfl, HGR', dh (Tch.refl _ _)⟩
  case round =>
   obtain ⟨q, hq, rfl, HRQ, HTQ⟩ := hrel
   have hzV := HTQ.out.size
   have HBR := dh (HBX.out.trans (HTQ.out.below (B := W0.1.size) (by omega) (fun k hk e => by have e : k = w1.1.size + 3 := e; omega)))
   by_cases hql : q < np
   ·have hps := HPS.out.below HBR.out (by have := HB0.out.size; omega)
    have hcu := hps.cap
    have hmu := hps.max
    unfold maxLen at hmu
    have wq : IntKind.i64.wrap ((q : Int) + 1) = (q : Int) + 1 := by rw [wI]; omega
    have hq0 : (0 : Int) ≤ (q : Int) := by omega
    have hq1 : (q : Int) < (np : Int) := by omega
    have hqP : q < part.length := by rw [HNP.out]; exact hql
    obtain ⟨b1, o1, hA1, hb1, hcl⟩ := hps.rd.at_ (nat_at hqP)
    subst hA1
    obtain ⟨y, hy⟩ := xQ (part.getD q 0)
    have hye : part[q] = y := by rw [← hy, gD, gE hqP]; rfl
    have hyE : y < E.length := by have := (HL.out part[q]).1 (mM hqP); rw [hye] at this; exact this.1
    have henc := HR0.out.enc
    have hyN : y < nc := by omega
    have hy0 : (0 : Int) ≤ (y : Int) := by omega
    have hy1 : (y : Int) < (nc : Int) := by omega
    have hin := HR0.out.i.below HBR.out (by have := HB0.out.size; omega)
    have hcc := hin.cap
    have hmc := hin.max
    unfold maxLen at hmc
    obtain ⟨iv, hiv⟩ := xQ (ins.getD y 0)
    have hiu : (ucellsN ins)[y]? = some (.int .u64 (iv : Int)) := by
     unfold ucellsN
     rw [List.getElem?_map, ← hiv, gD, gE (show y < ins.length by omega)]; rfl
    obtain ⟨b2, o2, hA2, hb2, hci⟩ := hin.rd.at_ hiu
    subst hA2
    have hi64 : iv < 2 ^ 64 := by rw [← hiv]; exact H64.out y
    have hbit := has_bit (j := x) hi64
    have HSN : Hid (setsF (fun y => (ins.getD y 0).testBit x) gl (part.take (q + 1)) = (setsF (fun y => (ins.getD y 0).testBit x) gl (part.take q)).set y (iv.testBit x)) := dh (by rw [setsF_snoc _ _ hqP, hye, ← hiv])
    have hgb := own_getB HRQ.out hyN
    have hf0 := hgb.1
    have hf1 := hgb.2.1
    have hgl9 := hgb.2.2.1
    have hgq : ¬ w1.1.size + 3 + 1 = w1.1.size + 3 := by omega
    have hbW : wr.cell? ⟨w1.1.size + 3 + 1, 0, none⟩ = some (.slice (some ⟨w1.1.size + 3, 0, none⟩) nc nc) := cR ((HTQ.out.block (w1.1.size + 3 + 1) (by omega) (fun e => by have e : w1.1.size + 3 + 1 = w1.1.size + 3 := e; omega)).trans HVX.out)
    have hpX : wr.cell? ⟨w.1.size, 3, none⟩ = some (.slice (some ⟨b2, o2, none⟩) nc cc) := cR ((HTQ.out.block w.1.size (by omega) (fun e => by have e : w.1.size = w1.1.size + 3 := e; omega)).trans HXX.out)
    have hcl' : wr.cell? ⟨b1, o1 + q, none⟩ = some (.int .i64 (y : Int)) := by rw [hcl, hy]
    have hx0 : (0 : Int) ≤ (x : Int) := by omega
    have HIV := dh hiv
    have HYE := dh hye
    generalize iv.testBit x = bt at *
    clear hcl hy hye hps hin hgb hiu henc hiv hgq hz6
    gi_wp2
    refine wpIn_norm ?_
    refine wpIn_region_U (S := fun w' => w'.cell? ⟨w1.1.size + 3 + 1, 0, none⟩ = some (.slice (some ⟨w1.1.size + 3, 0, none⟩) nc nc) ∧ w'.cell? ⟨w.1.size, 3, none⟩ = some (.slice (some ⟨b2, o2, none⟩) nc cc) ∧ w'.cell? ⟨b2, o2 + y, none⟩ = some (.int .u64 (iv : Int))) 12 (by kernel_rfl) (by kernel_rfl) lets_none ⟨hbW, hpX, hci⟩ (fun hS => ?_)
    refine tkU 0 [] ?_
    refine tkU 1 [] ?_
    refine tkU 2 [] ?_
    refine tkU 3 [] ?_
    refine tkU 4 [] ?_
    refine tkU 5 [] ?_
    refine tkU 6 [] ?_
    refine tkU 7 [] ?_
    refine tkU 8 [] ?_
    refine tkU 9 [] ?_
    refine tkU 10 [] ?_
    refine tkU 11 [] ?_
    refine wpAnyU_lastD (i := 12) rfl (by kernel_rfl) (by kernel_rfl) (fun K hK => ?_)
    go_simp
    refine hK.out _ _ ?_
    clear hK
    refine wpAnyU_done (by kernel_rfl) ?_
    clear hS
    gi_wp2
    go_roundw
    case rel => exact ⟨q + 1, by omega, congrArg (Value.int .i64) (by omega), dh (by rw [HSN.out]; exact (own_setB HRQ.out).drew), dh (tch_drewR (HTQ.out.setCell (p := ⟨w1.1.size + 3, y, none⟩) (fun _ => rfl) _))⟩
    case measure => simp [intOf]; omega
   ·have hqe : q = np := by omega
    subst hqe
    have HTK : Hid (part.take q = part) := dh (tL (by rw [HNP.out]; exact lR))
    obtain ⟨g2, hg2⟩ := xQ (setsF (fun y => (ins.getD y 0).testBit x) gl part)
    have hrq := HRQ.out
    rw [HTK.out, hg2] at hrq
    have hg2l : g2.length = nc := by rw [← hg2, setsF_len]; exact HGL.out
    have hene := HR0.out.ene
    have henc := HR0.out.enc
    have hnE : nc = E.length := by omega
    have hmt : ∃ k ∈ part, g2.getD k false = true := by
     obtain ⟨k, hk, hb⟩ := HMET.out x HXM.out
     exact ⟨k, hk, by rw [← hg2, setsF_at _ _ _ hk (by rw [HGL.out, hnE]; exact ((HL.out k).1 hk).1)]; exact hb⟩
    have hob2 : wr.1[w1.1.size + 1 + 1]? = some (.cells #[.slice (some ⟨bo, oo, none⟩) no co] 22 (0, 0)) := (HTQ.out.block (w1.1.size + 1 + 1) (aI.1 HOB.out).1 (fun e => by have e : w1.1.size + 1 + 1 = w1.1.size + 3 := e; omega)).trans HOB.out
    have hbq : bo ≠ w1.1.size + 3 := own_ne_own HROW.out HGR'.out (by decide)
    have hrw2 := own_tch HROW.out HTQ.out (fun g hg e => by have e : g = w1.1.size + 3 := e; simp [Value.ownBlock] at hg; omega)
    have hGw := HGR.out.below ((HBW6.out.trans ((rnd_below HRND.out (show w1.1.size ≤ W6.1.size by omega) hM1))).trans (HTQ.out.below (B := w1.1.size) (by omega) (fun k hk e => by have e : k = w1.1.size + 3 := e; omega))) lR
    have hGX : wr.1[w1.1.size]? = some _ := (HTQ.out.block w1.1.size (by omega) (fun e => by have e : w1.1.size = w1.1.size + 3 := e; omega)).trans HGX.out
    have hg0 : wr.cell? ⟨w1.1.size, 0, none⟩ = some (.slice bi mi di) := cR hGX
    have hg1 : wr.cell? ⟨w1.1.size, 1, none⟩ = some (.slice be me de) := cR hGX
    have hg2' : wr.cell? ⟨w1.1.size, 2, none⟩ = some (.slice bl ml dl) := cR hGX
    have hbW : wr.cell? ⟨w1.1.size + 3 + 1, 0, none⟩ = some (.slice (some ⟨w1.1.size + 3, 0, none⟩) nc nc) := cR ((HTQ.out.block (w1.1.size + 3 + 1) (by omega) (fun e => by have e : w1.1.size + 3 + 1 = w1.1.size + 3 := e; omega)).trans HVX.out)
    have hcW : wr.cell? ⟨w1.1.size + 3 + 2, 0, none⟩ = some (.func (.func 103) #[] #[.pointer (some ⟨w1.1.size, 0, none⟩), .pointer (some ⟨w1.1.size + 1 + 1, 0, none⟩), .pointer (some ⟨w1.1.size + 3 + 1, 0, none⟩)]) := cR ((HTQ.out.block (w1.1.size + 3 + 2) (by omega) (fun e => by have e : w1.1.size + 3 + 2 = w1.1.size + 3 := e; omega)).trans HCC.out)
    have HGO := dh (rndGo_any E part ins v mm bi be bl mi di me de ml dl pre out g2 (w1.1.size + 1 + 1) w1.1.size bo oo no co w1.1.size (w1.1.size + 3 + 1) (w1.1.size + 3) nc nc K wr w1.1.size hGw (by omega) hg0 hg1 hg2' (by omega) (by omega) (by omega) (by omega) hob2 hrw2 HNO.out (by have := HNB.out; have : pre.length * (E.length - 1) ≤ 64 * 65536 := Nat.mul_le_mul hpre (by omega); omega) hbW hrq hg2l (by omega) HR0'.out HL.out hmt (by omega) HRK.out (by rw [← hene]; exact hK2) hK3)
    have HG2 := dh hg2
    have HRQ2 := dh hrq
    clear hrq hg2 hg0 hg1 hg2' hGX hGw hrw2 hob2 hmt hbW hene henc HEA hz6
    gi_wp2
    refine ⟨trivial, (fun h => by cases h), (CallsIn.inRound l2 (callsIn_wide.2 HGO.out)).mono ?_⟩
    rintro e W9 ⟨⟨r9, rfl⟩, g9, c9, out9, cc9, h1, h2, h3, h4, h5, h6, h7, h8, h9, -⟩
    have hbit : (ins.getD cc9 0).testBit x = true := by
     rw [← HG2.out, setsF_at _ _ _ h8 (by rw [HGL.out]; have := ((HL.out cc9).1 h8).1; have := HR0.out.ene; have := HR0.out.enc; omega)] at h7
     exact h7
    have hzW := h4.size
    have hst : RSt E part ins v w1.1.size (w1.1.size + 1 + 1) (w1.1.size + 3) nc (pre ++ [x]) (fun y => N1 y ∨ y = g9) W9 := by
     refine ⟨out9, out9.length, g9, 0, c9, g2, rfl, h1, h2, ⟨.inl hNob, .inr rfl⟩, h5.met h6 hbit, ?_, hg2l, own_tch HRQ2.out h4 (fun g hg e => ?_)⟩
     ·rw [lA, List.length_singleton]
      exact bnd_step HNB.out h9
     ·simp [Value.ownBlock] at hg
      have e : g = w1.1.size + 1 + 1 ∨ g = bo := e
      omega
    have hrn : Rnd N1 X (fun y => N1 y ∨ y = g9) W9 := by
     refine ⟨(HTQ.out.wide (fun k e => by have e : k = w1.1.size + 3 := e; rw [e]; exact hNgq)).then_ (h4.wide (fun k e => by rcases e with e | e <;> rw [e] <;> assumption)), fun k hk e => ?_, fun k e => ?_⟩
     ·rcases e with e | e
      ·exact e
      ·rcases h3 with h3 | h3
       ·rw [e, h3]; exact hNbo
       ·omega
     ·rcases e with e | e
      ·have := HNX.out k e; omega
      ·rw [e]; exact (h2.lt g9 rfl).2
    have hrr := HRND.out.trans hrn
    clear h1 h2 h3 h4 h5 h6 h7 h8 h9 hbit
    gi_wp2
    exact postT_ok hrn ⟨hst, hrr, .inl hNgq⟩
 case done =>
  rintro D N1 X hD hDN ⟨⟨out, no, bo, oo, co, gl, hno, hob, hrow, ⟨hNob, hNbo⟩, hr0, hnb, hgl, hgrow⟩, hrnd, hNgq⟩ hDv
  dsimp only at hNob hNbo hr0 hnb hrnd hNgq hrow hDN
  have hzX := hrnd.tch.size
  have HB1X := dh (HBW6.out.trans (rnd_below hrnd (show w1.1.size ≤ W6.1.size by omega) hM1))
  have HBX := dh (HB06.out.trans ((rnd_below hrnd (show w1.1.size ≤ W6.1.size by omega) hM1).mono hz1))
  have hnM : ∀ k, k < W6.1.size → ¬ (k = w1.1.size + 1 ∨ k = w1.1.size + 1 + 1 ∨ k = w1.1.size + 3) → X.1[k]? = W6.1[k]? := fun k hk he => hrnd.tch.block k hk he
  have HXX := dh ((hnM w.1.size (by omega) (by omega)).trans HX6.out)
  have HYX := dh ((hnM (w.1.size + 1) (by omega) (by omega)).trans HY6.out)
  have HGX := dh ((hnM w1.1.size (by omega) (by omega)).trans F6G.out)
  have HVX := dh ((hnM (w1.1.size + 3 + 1) (by omega) (by omega)).trans F6V.out)
  have HCX := dh ((hnM (w1.1.size + 3 + 2) (by omega) (by omega)).trans F6C.out)
  have hDl : D < X.1.size := (aI.1 hDv).1
  have hDW : w1.1.size + 7 ≤ D := by omega
  have hDbo : bo ≠ D := fun e => hDN (e ▸ hNbo)
  have hbl := hrow.lt bo rfl
  have hbOB : bo ≠ w1.1.size + 1 + 1 := fun e => own_ne_blk hrow hob (by decide) (by rw [e]; rfl)
  have hbG : bo ≠ w1.1.size := fun e => own_ne_blk hrow HGX.out (by decide) (by rw [e]; rfl)
  have hbV : bo ≠ w1.1.size + 3 + 1 := fun e => own_ne_blk hrow HVX.out (by decide) (by rw [e]; rfl)
  have hbC : bo ≠ w1.1.size + 3 + 2 := fun e => own_ne_blk hrow HCX.out (by decide) (by rw [e]; rfl)
  have hbQ : bo ≠ w1.1.size + 3 := own_ne_own hrow hgrow (by decide)
  have hll : (bitsL all).length ≤ 64 := by
   unfold bitsL
   have := List.length_filter_le all.testBit (List.range 64)
   rwa [List.length_range] at this
  have hno9 : no ≤ 1 + 64 * 65536 := Nat.le_trans hnb (Nat.add_le_add_left (Nat.mul_le_mul hll (by have := HR0.out.ene; omega)) _)
  have HNB := dh hnb
  obtain ⟨o, b, ho', hbp⟩ := hr0.last
  obtain ⟨n1, hn1⟩ := xQ o.length
  have hnn1 : no = n1 + 1 := by rw [hno, ho', lA, hn1]; rfl
  have wn1 : IntKind.i64.wrap ((no : Int) - 1) = (n1 : Int) := by rw [wI]; omega
  have hi0 : (0 : Int) ≤ (n1 : Int) := by omega
  have hi1 : (n1 : Int) < (no : Int) := by omega
  obtain ⟨A9, c9, hf9, hs9⟩ := own_sl hrow
  cases hf9
  have hlastc : (icells (natI out))[n1]? = some (.int .i64 (b : Int)) := by
   rw [ho']
   simp [icells, natI, ← hn1]
  obtain ⟨b9, o9, hA9, -, hcb⟩ := hs9.rd.at_ hlastc
  cases hA9
  have hco := hs9.cap
  have hmo := hs9.max
  unfold maxLen at hmo
  have x0 : X.cell? ⟨w1.1.size + 1 + 1, 0, none⟩ = some (.slice (some ⟨bo, oo, none⟩) no co) := cR hob
  have HNO := dh hno
  have HNN1 := dh hnn1
  have HOB := dh hob
  have HROW := dh hrow
  have HR0' := dh hr0
  have HGL := dh hgl
  have HGR' := dh hgrow
  have HRND := dh hrnd
  have HDV := dh hDv
  have HOU := dh ho'
  have HN1 := dh hn1
  have HBP := dh hbp
  clear hno hob hrow hr0 hnb hgl hgrow hrnd hDv hnM hs9 ho' hn1 hlastc hnn1 hbp hz5 hz3 HEA
  go_upto_if 61 with (fail)
  go_cut [14] from 15 (fun u wF => u = .int .i64 (b : Int) ∧ ∃ (out2 : List Nat) (no2 bo2 oo2 co2 : Nat), no2 = out2.length ∧ Hid (wF.1[w1.1.size + 1 + 1]? = some (.cells #[.slice (some ⟨bo2, oo2, none⟩) no2 co2] 22 (0, 0))) ∧ Hid (wF.ownsRow w1.1.size 3 1 (.slice (some ⟨bo2, oo2, none⟩) no2 co2) no2 (icells (natI out2))) ∧ (bo2 = bo ∨ X.1.size ≤ bo2) ∧ Hid (Rnd0 E part ins v (bitsL all) out2) ∧ 1 < no2 ∧ no2 ≤ 5000000 ∧ no2 ≤ no + 1 ∧ Hid (Tch (fun k => k = w1.1.size + 1 + 1 ∨ k = bo) X wF))
  case first =>
   by_cases e1 : no = 1
   ·have d : ((no : Int) == 1) = true := by simp; omega
    have hno1 : 1 ≤ no := by omega
    clear e1
    have hbE := (HL.out b).1 HBP.out
    obtain ⟨y, hyp, hya⟩ := HCY.out b HBP.out
    obtain ⟨e0, r0, c0, hrb, he0, harc⟩ := first_arc (arc_inner.2 ⟨hya, HBP.out, hyp⟩) HEN.out
    have hGw := HGR.out.below HB1X.out lR
    have hmeE := hGw.lens.2.1
    simp only [innerE_len] at hmeE
    have HMEE := dh hmeE
    have hce := hGw.he.cap
    have hme := hGw.he.max
    unfold maxLen at hme
    obtain ⟨be1, oe1, A1, m1, d1, hbe1, hbl1, hce1, hrw1⟩ := hGw.he.at_ (show ((⟨[], innerE E part, []⟩ : Gph).edges.map ncells)[b]? = some (ncells (e0 :: r0)) by simp [hrb])
    have hrl := hrw1.len
    rw [ncells_len, List.length_cons] at hrl
    have hm1 : m1 = r0.length + 1 := by omega
    have hrc := hrw1.cap
    have hrm := hrw1.max
    unfold maxLen at hrm
    obtain ⟨br1, or1, hA1, hbr1, hcr1⟩ := hrw1.rd.at_ (show (ncells (e0 :: r0))[0]? = some (.int .i64 (c0 : Int)) by rw [← he0]; rfl)
    subst hA1
    have hcr2 : X.cell? ⟨br1, or1, none⟩ = some (.int .i64 (c0 : Int)) := hcr1
    have hbr0 : (0 : Int) ≤ (b : Int) := by omega
    have hbr2 : (b : Int) < (me : Int) := by have := hbE.1; omega
    have hm10 : (0 : Int) < (m1 : Int) := by omega
    have hm10n : 0 < m1 := by omega
    have g1 : X.cell? ⟨w1.1.size, 1, none⟩ = some (.slice be me de) := cR HGX.out
    have HRB := dh hrb
    have HARC := dh harc
    have HNM := dh hm1
    subst hbe1
    clear hGw hrw1 hrl hcr1 hrb he0 hya harc hm1 hmeE
    go_upto_region 15 with fail
    refine wp_only ?_
    refine wp_region_U (S := fun w' => w'.cell? ⟨w1.1.size + 1 + 1, 0, none⟩ = some (.slice (some ⟨bo, oo, none⟩) no co) ∧ w'.cell? ⟨w1.1.size, 1, none⟩ = some (.slice (some ⟨be1, oe1, none⟩) me de) ∧ w'.cell? ⟨be1, oe1 + b, none⟩ = some (.slice (some ⟨br1, or1, none⟩) m1 d1) ∧ w'.cell? ⟨br1, or1, none⟩ = some (.int .i64 (c0 : Int))) 11 (by kernel_rfl) (⟨x0, g1, hce1, hcr2⟩) (fun hS => ?_)
    refine tkU 0 [] ?_
    refine tkU 1 [] ?_
    refine tkU 2 [] ?_
    refine tkU 3 [] ?_
    refine tkU 4 [] ?_
    refine tkU 5 [] ?_
    refine tkU 6 [] ?_
    refine tkU 7 [] ?_
    refine tkU 8 [] ?_
    refine wpAnyU_oneD (i := 9) rfl (by kernel_rfl) (fun K hK => ?_)
    go_simp
    have tb := heap_alloc_new X (.cells #[.int .i64 (c0 : Int)] 3)
    obtain ⟨wY, hwY⟩ := xQ (X.alloc (.cells #[.int .i64 (c0 : Int)] 3)).drew
    have hbY : Below X.1.size X wY := by rw [← hwY]; exact Below.drew (bR.alloc lR _)
    have hzY : wY.1.size = X.1.size + 1 := by rw [← hwY]; simp
    have tb : wY.1[X.1.size]? = some (.cells #[.int .i64 (c0 : Int)] 3 (0, 0)) := by rw [← hwY]; exact tb
    rw [hwY]
    clear hwY
    refine hK.out _ _ ⟨bC hbY (by omega) x0, bC hbY (by omega) g1, bC hbY (by omega) hce1, bC hbY (by omega) hcr2⟩ (fun hS => ?_)
    clear hK
    refine wpAnyU_oneD (i := 10) rfl (by kernel_rfl) (fun K hK => ?_)
    refine step_push rfl (.tmp 62) (.tmp 71) 22 rfl w1.1.size 3 1 8 sliceInt _ _ _ (own_below HROW.out hbY) (by rfl) X.1.size #[.int .i64 (c0 : Int)] (by rfl) tb rfl (by simp [Value.oneCell']) (by omega) (by omega) (by omega) ?_
    intro uZ wZ hownZ htZ hatZ _
    obtain ⟨gZ, cZ, rfl⟩ := ownsRow_succ hownZ
    have hnz : ∀ k, (Value.slice (some ⟨bo, oo, none⟩) no co).ownBlock = some k → k = bo := fun k hk => by simp [Value.ownBlock] at hk; exact hk.symm
    have htZ2 : Tch (fun k => k = bo) X wZ := (below_tch hbY).then_ (htZ.wide hnz)
    have hobZ : wZ.1[w1.1.size + 1 + 1]? = some (.cells #[.slice (some ⟨bo, oo, none⟩) no co] 22 (0, 0)) := (htZ2.block (w1.1.size + 1 + 1) (by omega) (fun e => hbOB e.symm)).trans HOB.out
    have x0Z : wZ.cell? ⟨w1.1.size + 1 + 1, 0, none⟩ = some (.slice (some ⟨bo, oo, none⟩) no co) := cR hobZ
    have f0Z : wZ.frozen? ⟨w1.1.size + 1 + 1, 0, none⟩ = false := frozen_of_row wZ (w1.1.size + 1 + 1) 0 _ _ hobZ
    have l0Z : w1.1.size + 1 + 1 < wZ.1.size := (aI.1 hobZ).1
    have t1 := bD htZ2 (by omega) (fun e => hbG e.symm) g1
    have t2 := bD htZ2 (by omega) (fun e => by have e : be1 = bo := e; omega) hce1
    have t3 := bD htZ2 (by omega) (fun e => by have e : br1 = bo := e; omega) hcr2
    have HOZ := dh hownZ
    have HTZ := dh htZ2
    have HATZ := dh hatZ
    have HOBZ := dh hobZ
    clear hownZ htZ htZ2 hatZ hobZ
    refine hK.out _ _ ⟨x0Z, t1, t2, t3⟩ (fun hS => ?_)
    clear hK
    refine wpAnyU_lastD (i := 11) rfl (by kernel_rfl) (by kernel_rfl) (fun K hK => ?_)
    go_simp
    refine hK.out _ _ ?_
    clear hK
    refine wpAnyU_done (by kernel_rfl) ?_
    clear hS
    have hfin : Hid (∃ (out2 : List Nat) (no2 bo2 oo2 co2 : Nat), no2 = out2.length ∧ Hid ((wZ.setCell ⟨w1.1.size + 1 + 1, 0, none⟩ (.slice (some ⟨gZ, 0, none⟩) (no + 1) cZ)).1[w1.1.size + 1 + 1]? = some (.cells #[.slice (some ⟨bo2, oo2, none⟩) no2 co2] 22 (0, 0))) ∧ Hid ((wZ.setCell ⟨w1.1.size + 1 + 1, 0, none⟩ (.slice (some ⟨gZ, 0, none⟩) (no + 1) cZ)).ownsRow w1.1.size 3 1 (.slice (some ⟨bo2, oo2, none⟩) no2 co2) no2 (icells (natI out2))) ∧ (bo2 = bo ∨ X.1.size ≤ bo2) ∧ Hid (Rnd0 E part ins v (bitsL all) out2) ∧ 1 < no2 ∧ no2 ≤ 5000000 ∧ no2 ≤ no + 1 ∧ Hid (Tch (fun k => k = w1.1.size + 1 + 1 ∨ k = bo) X (wZ.setCell ⟨w1.1.size + 1 + 1, 0, none⟩ (.slice (some ⟨gZ, 0, none⟩) (no + 1) cZ)))) := dh (by
     have hw : NWay (Arc (innerE E part)) b [b] c0 := .cons HARC.out (.nil _)
     have hlast : out.getLast? = some b := by rw [HOU.out]; simp
     have hst := (HR0'.out.step hlast hw).1
     simp only [List.singleton_append, List.drop_one, List.tail_cons] at hst
     have hq : icells (natI out) ++ (#[Value.int .i64 (c0 : Int)] : Array Value).toList = icells (natI (out ++ [c0])) := by rw [natI_append, icells_append]; rfl
     have hoz := HOZ.out
     rw [hq] at hoz
     refine ⟨out ++ [c0], no + 1, gZ, 0, cZ, by rw [lA, HNO.out]; rfl, dh ?_, dh (own_tch hoz (tch_cell (w := wZ) (w1.1.size + 1 + 1) 0 _) (fun g hg e => by have e : g = w1.1.size + 1 + 1 := e; exact own_ne_blk hoz HOBZ.out (by decide) (by rw [hg, e]))), ?_, dh hst, by omega, by omega, by omega, dh ((HTZ.out.wide (fun k e => .inr e)).then_ ((tch_cell (w := wZ) (w1.1.size + 1 + 1) 0 _).wide (fun k e => .inl e)))⟩
     ·rw [heap_setCell_same wZ (w1.1.size + 1 + 1) 0 _ _ _ HOBZ.out]; rfl
     ·rcases HATZ.out with h9 | h9
      ·left; simp [Value.ownBlock] at h9; exact h9
      ·right; simp [Value.ownBlock] at h9; omega)
    clear t1 t2 t3 x0Z f0Z l0Z
    go_wp2_with fail
    go_meet
    case rel => exact ⟨rfl, hfin.out⟩
   ·have d : ((no : Int) == 1) = false := beq_eq_false_iff_ne.2 (by omega)
    have hno1 : 1 < no := by have := HNN1.out; omega
    clear e1
    go_wp2_with fail
    go_meet
    case rel => exact ⟨rfl, out, no, bo, oo, co, HNO.out, HOB, HROW, .inl rfl, HR0', by omega, by omega, by omega, dh (Tch.refl _ _)⟩
  case rest =>
   obtain ⟨rfl, out2, no2, bo2, oo2, co2, hno2, HOB2, HROW2, hb2, HR2, h12, hn29, hn2o, HT2⟩ := hcut
   have hzC := HT2.out.size
   have hkC : ∀ k, k < X.1.size → k ≠ w1.1.size + 1 + 1 → k ≠ bo → wc.1[k]? = X.1[k]? := fun k hk h1 h2 => HT2.out.block k hk (fun e => by rcases e with e | e <;> omega)
   have HXC := dh ((hkC w.1.size (by omega) (by omega) (by omega)).trans HXX.out)
   have HYC := dh ((hkC (w.1.size + 1) (by omega) (by omega) (by omega)).trans HYX.out)
   have HGC := dh ((hkC w1.1.size (by omega) (by omega) (fun e => hbG e.symm)).trans HGX.out)
   have HVC := dh ((hkC (w1.1.size + 3 + 1) (by omega) (by omega) (fun e => hbV e.symm)).trans HVX.out)
   have HCC := dh ((hkC (w1.1.size + 3 + 2) (by omega) (by omega) (fun e => hbC e.symm)).trans HCX.out)
   have HDC := dh ((hkC D hDl (by omega) (fun e => hDbo e.symm)).trans HDV.out)
   have HGRC := dh (own_tch HGR'.out HT2.out (fun g hg e => by
    simp [Value.ownBlock] at hg
    have e : g = w1.1.size + 1 + 1 ∨ g = bo := e
    omega))
   have HNO2 := dh hno2
   have HB1C := dh (HB1X.out.trans (HT2.out.below (B := w1.1.size) (by omega) (fun k hk e => by rcases e with e | e <;> omega)))
   have HBC := dh (HBX.out.trans (HT2.out.below (B := W0.1.size) (by omega) (fun k hk e => by rcases e with e | e <;> omega)))
   have hD2 : bo2 ≠ D := by rcases hb2 with e | e <;> omega
   have hb2l := HROW2.out.lt bo2 rfl
   have hb2OB : bo2 ≠ w1.1.size + 1 + 1 := fun e => own_ne_blk HROW2.out HOB2.out (by decide) (by rw [e]; rfl)
   have hb2Q : bo2 ≠ w1.1.size + 3 := own_ne_own HROW2.out HGRC.out (by decide)
   have p0 : wc.cell? ⟨w.1.size + 1, 0, none⟩ = some (.slice Ap np cp) := cR HYC.out
   clear hkC hno2 x0 hcb wn1 hi0 hi1 hbOB hbG hbV hbC hbQ hDbo hb2 hbl hno9
   go_wp2_with fail
   go_loopw [75] (fun i V' => ∃ q : Nat, q ≤ np ∧ i = .int .i64 (q : Int) ∧ Hid (V'.ownsRow w1.1.size 4 1 (.slice (some ⟨w1.1.size + 3, 0, none⟩) nc nc) nc (bcells (setsF (fun y => decide (y = v)) gl (part.take q)))) ∧ Hid (Tch (fun k => k = w1.1.size + 3) wc V')) (fun i _ => np - (intOf i).toNat)
   case atStart => exact ⟨0, by omega, rfl, HGRC, dh (Tch.refl _ _)⟩
   case round =>
    obtain ⟨q, hq, rfl, HRQ, HTQ⟩ := hrel
    have hzV := HTQ.out.size
    have HBR := dh (HBC.out.trans (HTQ.out.below (B := W0.1.size) (by omega) (fun k hk e => by have e : k = w1.1.size + 3 := e; omega)))
    by_cases hql : q < np
    ·have hps := HPS.out.below HBR.out (by have := HB0.out.size; omega)
     have hcu := hps.cap
     have hmu := hps.max
     unfold maxLen at hmu
     have wq : IntKind.i64.wrap ((q : Int) + 1) = (q : Int) + 1 := by rw [wI]; omega
     have hq0 : (0 : Int) ≤ (q : Int) := by omega
     have hq1 : (q : Int) < (np : Int) := by omega
     have hqP : q < part.length := by rw [HNP.out]; exact hql
     obtain ⟨b1, o1, hA1, hb1, hcl⟩ := hps.rd.at_ (nat_at hqP)
     subst hA1
     obtain ⟨y, hy⟩ := xQ (part.getD q 0)
     have hye : part[q] = y := by rw [← hy, gD, gE hqP]; rfl
     have hyE : y < E.length := by have := (HL.out part[q]).1 (mM hqP); rw [hye] at this; exact this.1
     have henc := HR0.out.enc
     have hyN : y < nc := by omega
     have hy0 : (0 : Int) ≤ (y : Int) := by omega
     have hy1 : (y : Int) < (nc : Int) := by omega
     have hbe : ((y : Int) == (v : Int)) = decide (y = v) := by rw [Bool.eq_iff_iff, beq_iff_eq, decide_eq_true_iff]; omega
     have HSN : Hid (setsF (fun y => decide (y = v)) gl (part.take (q + 1)) = (setsF (fun y => decide (y = v)) gl (part.take q)).set y (decide (y = v))) := dh (by rw [setsF_snoc _ _ hqP, hye])
     have hgb := own_getB HRQ.out hyN
     have hf0 := hgb.1
     have hf1 := hgb.2.1
     have hgl9 := hgb.2.2.1
     have hbW : wr.cell? ⟨w1.1.size + 3 + 1, 0, none⟩ = some (.slice (some ⟨w1.1.size + 3, 0, none⟩) nc nc) := cR ((HTQ.out.block (w1.1.size + 3 + 1) (by omega) (fun e => by have e : w1.1.size + 3 + 1 = w1.1.size + 3 := e; omega)).trans HVC.out)
     have hcl' : wr.cell? ⟨b1, o1 + q, none⟩ = some (.int .i64 (y : Int)) := by rw [hcl, hy]
     generalize decide (y = v) = bt at *
     clear hcl hy hye hps hgb henc hz6
     go_wp2_with fail
     go_roundw
     case rel => exact ⟨q + 1, by omega, congrArg (Value.int .i64) (by omega), dh (by rw [HSN.out]; exact own_setB HRQ.out), dh (HTQ.out.setCell (p := ⟨w1.1.size + 3, y, none⟩) (fun _ => rfl) _)⟩
     case measure => simp [intOf]; omega
    ·have hqe : q = np := by omega
     subst hqe
     have HTK : Hid (part.take q = part) := dh (tL (by rw [HNP.out]; exact lR))
     obtain ⟨g2, hg2⟩ := xQ (setsF (fun y => decide (y = v)) gl part)
     have hrq := HRQ.out
     rw [HTK.out, hg2] at hrq
     have hg2l : g2.length = nc := by rw [← hg2, setsF_len]; exact HGL.out
     have hene := HR0.out.ene
     have henc := HR0.out.enc
     have hnE : nc = E.length := by omega
     have HNE := dh hnE
     have hmt : ∃ k ∈ part, g2.getD k false = true :=
      ⟨v, HV.out, by rw [← hg2, setsF_at _ _ _ HV.out (by rw [HGL.out, hnE]; exact ((HL.out v).1 HV.out).1)]; exact decide_eq_true rfl⟩
     have hob2 : wr.1[w1.1.size + 1 + 1]? = some (.cells #[.slice (some ⟨bo2, oo2, none⟩) no2 co2] 22 (0, 0)) := (HTQ.out.block (w1.1.size + 1 + 1) (aI.1 HOB2.out).1 (fun e => by have e : w1.1.size + 1 + 1 = w1.1.size + 3 := e; omega)).trans HOB2.out
     have hrw2 := own_tch HROW2.out HTQ.out (fun g hg e => by have e : g = w1.1.size + 3 := e; simp [Value.ownBlock] at hg; omega)
     have hGw := HGR.out.below (HB1C.out.trans (HTQ.out.below (B := w1.1.size) (by omega) (fun k hk e => by have e : k = w1.1.size + 3 := e; omega))) lR
     have hGX : wr.1[w1.1.size]? = some _ := (HTQ.out.block w1.1.size (by omega) (fun e => by have e : w1.1.size = w1.1.size + 3 := e; omega)).trans HGC.out
     have hg0 : wr.cell? ⟨w1.1.size, 0, none⟩ = some (.slice bi mi di) := cR hGX
     have hg1 : wr.cell? ⟨w1.1.size, 1, none⟩ = some (.slice be me de) := cR hGX
     have hg2' : wr.cell? ⟨w1.1.size, 2, none⟩ = some (.slice bl ml dl) := cR hGX
     have hbW : wr.cell? ⟨w1.1.size + 3 + 1, 0, none⟩ = some (.slice (some ⟨w1.1.size + 3, 0, none⟩) nc nc) := cR ((HTQ.out.block (w1.1.size + 3 + 1) (by omega) (fun e => by have e : w1.1.size + 3 + 1 = w1.1.size + 3 := e; omega)).trans HVC.out)
     have hcW : wr.cell? ⟨w1.1.size + 3 + 2, 0, none⟩ = some (.func (.func 103) #[] #[.pointer (some ⟨w1.1.size, 0, none⟩), .pointer (some ⟨w1.1.size + 1 + 1, 0, none⟩), .pointer (some ⟨w1.1.size + 3 + 1, 0, none⟩)]) := cR ((HTQ.out.block (w1.1.size + 3 + 2) (by omega) (fun e => by have e : w1.1.size + 3 + 2 = w1.1.size + 3 := e; omega)).trans HCC.out)
     have HGO := dh (rndGo_any E part ins v mm bi be bl mi di me de ml dl (bitsL all) out2 g2 (w1.1.size + 1 + 1) w1.1.size bo2 oo2 no2 co2 w1.1.size (w1.1.size + 3 + 1) (w1.1.size + 3) nc nc K wr w1.1.size hGw (by omega) hg0 hg1 hg2' (by omega) (by omega) (by omega) (by omega) hob2 hrw2 HNO2.out (by omega) hbW hrq hg2l (by omega) HR2.out HL.out hmt (by omega) HRK.out (by rw [← hene]; exact hK2) hK3)
     have HG2 := dh hg2
     have HDR := dh ((HTQ.out.block D (by omega) (fun e => by have e : D = w1.1.size + 3 := e; omega)).trans HDC.out)
     have hDr : D < wr.1.size := (aI.1 HDR.out).1
     have HBR1 := dh (HB1C.out.trans (HTQ.out.below (B := w1.1.size) (by omega) (fun k hk e => by have e : k = w1.1.size + 3 := e; omega)))
     clear hrq hg2 hg0 hg1 hg2' hGX hGw hrw2 hob2 hmt hbW hene henc hz6
     go_wp2_with fail
     refine HGO.out.mono ?_
     rintro e W9 ⟨⟨r9, rfl⟩, g9, c9, out9, cc9, h1, h2, h3, h4, h5, h6, h7, h8, h9, h10⟩
     have hcv : cc9 = v := by
      rw [← HG2.out, setsF_at _ _ _ h8 (by rw [HGL.out, hnE]; exact ((HL.out cc9).1 h8).1)] at h7
      exact of_decide_eq_true h7
     subst hcv
     have hzW := h4.size
     obtain ⟨o3, b3, ho3, -⟩ := h5.last
     obtain ⟨n3, hn3⟩ := xQ out9.length
     obtain ⟨m3, hm3⟩ := xQ o3.length
     have hnm : n3 = m3 + 1 := by rw [← hn3, ho3, lA, hm3]; rfl
     rw [hn3] at h1 h2 h9 h10
     have wn3 : IntKind.i64.wrap ((n3 : Int) - 1) = (m3 : Int) := by rw [wI]; omega
     obtain ⟨A9, c9', hf9, hs9⟩ := own_sl h2
     cases hf9
     have hco9 := hs9.cap
     have hmo9 := hs9.max
     unfold maxLen at hmo9
     have hi0 : (0 : Int) ≤ (m3 : Int) := by omega
     have hi1 : (m3 : Int) ≤ (c9 : Int) := by omega
     have hi2 : m3 ≤ c9 := by omega
     have x9 : W9.cell? ⟨w1.1.size + 1 + 1, 0, none⟩ = some (.slice (some ⟨g9, 0, none⟩) n3 c9) := cR h1
     have HD9 := dh ((h4.block D hDr (fun e => by have e : D = w1.1.size + 1 + 1 ∨ D = bo2 := e; omega)).trans HDR.out)
     have HB9 := dh (HBR1.out.trans (h4.below (B := w1.1.size) (by omega) (fun k hk e => by have e : k = w1.1.size + 1 + 1 ∨ k = bo2 := e; omega)))
     have HO9 := dh h2
     have H5 := dh h5
     have H6 := dh h6
     have HN3 := dh hn3
     have HNM := dh hnm
     have HO3 := dh ho3
     have HM3 := dh hm3
     clear h1 h2 h3 h4 h5 h6 h7 h8 hs9 hn3 ho3 hnm hm3 hnE
     go_wp2_with fail
     obtain ⟨L9, hL1, hL2, hL3, hL4⟩ := H5.out.close (by rw [HN3.out]; omega) H6.out
     have hLm : L9.length = m3 := by
      rw [← hL1, List.length_take, HN3.out]
      have := HNM.out
      omega
     have hLi : (icells (natI out9)).take (m3 * 1) = icells (natI L9) := by
      rw [← hL1, HN3.out, HNM.out]
      simp [icells, natI, List.map_take]
     refine ⟨by simp, .inl ⟨_, _, rfl, run_takeDeferred HD9.out, ?_⟩⟩
     have hDw : w1.1.size ≤ D := by omega
     have hoz := ownsRow_putObj HO9.out (.deferred none) HD9.out rfl
     obtain ⟨Z, hZ⟩ := xQ (W9.putObj D (.deferred none))
     have hbZ : Below w.1.size w Z := by
      rw [← hZ]
      exact ((HB0.out.trans (HB1.out.mono (show w.1.size ≤ W0.1.size by omega))).trans (HB9.out.mono (show w.1.size ≤ w1.1.size by omega))).trans (belowK_b (w := w) lR W9 D _ _ (by omega) HD9.out rfl rfl)
     rw [hZ] at hoz ⊢
     have hst := own_base (own_take hoz (show m3 ≤ n3 by have := HNM.out; omega)) (show w.1.size ≤ w1.1.size by omega)
     rw [hLi, ← hLm] at hst
     rw [← hLm]
     exact ⟨_, results_tmp rfl _ _ _, L9, _, _, rfl, hst, hbZ, hL2, by have := HNM.out; have := HNB.out; rw [Nat.add_mul, Nat.one_mul]; omega, hL3, hL4⟩
 case stop => exact fun _ _ _ _ _ _ _ _ h => h.elim
end Go.Proofs.YtiebpncpdbnelaaDoor
