/- The walk of layer 28's reference: ways. -/
import Derived.Test.YtedohmcnjlhdnaaCr3
import Derived.BigQuiet
import Derived.Deep.Cut
import Derived.Deep.DeepCutAuto
namespace Go.Proofs.Ytedohmcnjlhdnaa
open Go.RowKit

def slLen (v : Value) : Nat := match v with | .slice _ n _ => n | _ => 0
theorem on_any (l : List Bool) (i : Nat) : (natI (onL l)).any ((i : Int) == ·) = l.getD i false := by
  rw [natI_any, Bool.eq_iff_iff, decide_eq_true_eq, onL_mem]
theorem skip_go {now : List Bool} {j : Nat} {t : List Nat} (h : now.getD j false = true) : skipL now (j :: t) = skipL now t := by
  unfold skipL; rw [List.dropWhile_cons, if_pos h]
theorem skip_stop {now : List Bool} {j : Nat} {t : List Nat} (h : now.getD j false = false) : skipL now (j :: t) = j :: t := by
  unfold skipL; rw [List.dropWhile_cons, if_neg (by rw [h]; decide)]
theorem cell4 {w : World} {b t : Nat} {p q r s : Value} (h : w.heap[b]? = some (.cells #[p, q, r, s] t (0, 0))) : w.cell? ⟨b, 0, none⟩ = some p ∧ w.cell? ⟨b, 1, none⟩ = some q ∧ w.cell? ⟨b, 2, none⟩ = some r ∧ w.cell? ⟨b, 3, none⟩ = some s := by
  refine ⟨?_, ?_, ?_, ?_⟩ <;> (rw [cell_of_row _ _ _ _ _ (0, 0) h]; rfl)
theorem ways_drew {w w' : World} {T : List Cov} {e : Ending} {k : Nat} (h : WaysPost w T e w') : WaysPost w T e (w'.drewN k) := by
  obtain ⟨v, xs, he, ho, hc, hb⟩ := h
  exact ⟨v, xs, he, own_below ho (below_drewN _ _), hc.keep (Tch.of_below (below_drewN _ _)) (spares_new _ _), hb.trans ((below_drewN _ _).mono hb.size)⟩
theorem ways_drew1 {w w' : World} {T : List Cov} {e : Ending} (h : WaysPost w T e w') : WaysPost w T e w'.drew := ways_drew (k := 1) h
theorem ways_one {w w1 : World} {x : Way} {A1 A2 A3 : Option Addr} {c1 c2 c3 : Nat} (hb : Below w.heap.size w w1) (hr : RR w x A1 c1 A2 c2 A3 c3) :
    WaysPost w [x.cov] (.returned (.slice (some ⟨w1.heap.size, 0, none⟩) 1 1)) (w1.alloc (.cells #[.int .u64 (x.need : Int), .int .u64 (x.ban : Int), .slice A1 (onL x.next).length c1, .slice A2 (onL x.now).length c2] 47)) := by
  have hba : Below w.heap.size w (w1.alloc (.cells #[.int .u64 (x.need : Int), .int .u64 (x.ban : Int), .slice A1 (onL x.next).length c1, .slice A2 (onL x.now).length c2] 47)) := hb.alloc hb.size _
  refine ⟨_, _, rfl, own_base (World.ownsRow_lit w1 #[.int .u64 (x.need : Int), .int .u64 (x.ban : Int), .slice A1 (onL x.next).length c1, .slice A2 (onL x.now).length c2] 1 (Nat.le_refl _) (by unfold maxLen; omega) rfl) hb.size, fun k c hk => ?_, hba⟩
  match k, hk with
  | 0, hk => cases hk; exact ⟨A1, c1, A2, c2, rfl, rfl, rfl, rfl, hr.next.below hba, hr.now.below hba⟩
theorem ways_base {w w1 w' : World} {T : List Cov} {e : Ending} (hb : Below w.heap.size w w1) (h : WaysPost w1 T e w') : WaysPost w T e w' := by
  obtain ⟨v, xs, he, ho, hc, hb1⟩ := h
  exact ⟨v, xs, he, own_base ho hb.size, hc, hb.trans (hb1.mono hb.size)⟩

/-- The box's last cell is turned, and a copy of the box is made, as the walk says it. -/
theorem later_world' {w w4 : World} {g T : Nat} {a b c d v : Value} (h : w4.heap[g]? = some (.cells #[a, b, c, d] T (0, 0))) (hb : Below w.heap.size w w4) (hg : w.heap.size ≤ g) {V : World}
    (hV : V = (w4.setCell ⟨g, 3, none⟩ v).alloc (.cells #[a, b, c, v] T)) :
    Below w.heap.size w V ∧ Tch (fun k => k = g) w4 V ∧ V.heap[g]? = some (.cells #[a, b, c, v] T (0, 0)) ∧ V.heap[w4.heap.size]? = some (.cells #[a, b, c, v] T (0, 0)) ∧ V.heap.size = w4.heap.size + 1 := by
  have hgl := heap_lt h
  have hw := hb.size
  have s1 : (w4.setCell ⟨g, 3, none⟩ v).heap.size = w4.heap.size := by simp
  have hn : ((w4.setCell ⟨g, 3, none⟩ v).alloc (.cells #[a, b, c, v] T)).heap[w4.heap.size]? = some (.cells #[a, b, c, v] T (0, 0)) := by
    have := heap_alloc_new (w4.setCell ⟨g, 3, none⟩ v) (.cells #[a, b, c, v] T)
    rwa [s1] at this
  have e1 := heap_setCell_same w4 g 3 _ _ v h
  have hT : Tch (fun k => k = g) w4 V := by
    rw [hV]
    exact ((Tch.refl (fun k => k = g) w4).setCell (p := ⟨g, 3, none⟩) (fun _ => rfl) v).alloc (.cells #[a, b, c, v] T)
  refine ⟨hb.trans (hT.below hw (fun k hk e => by omega)), hT, ?_, by rw [hV]; exact hn, by rw [hV]; simp⟩
  rw [hV, Below.heap_alloc _ _ _ (by rw [s1]; exact hgl), e1]
  simp
theorem cell_in {w : World} {g T : Nat} {cs : Array Value} (h : w.heap[g]? = some (.cells cs T (0, 0))) (i j : Nat) (hij : i ≠ j) (v : Value) : (w.setCell ⟨g, i, none⟩ v).cell? ⟨g, j, none⟩ = w.cell? ⟨g, j, none⟩ := by
  rw [cell_of_row _ _ j _ _ (0, 0) h, cell_of_row _ _ j _ _ (0, 0) (heap_setCell_same w g i _ _ v h)]
  simp [hij]
/-- Two answers, one behind the other. -/
theorem ways_join {w w2 w' : World} {T1 T2 : List Cov} {u v : Value} {n1 n2 : Nat} {xs1 xs2 : List Value} (hb : Below w.heap.size w w2) (h1 : w2.ownsRow w.heap.size 47 4 u T1.length xs1) (c1 : CovsAt w2 xs1 T1) (c2 : CovsAt w2 xs2 T2)
    (ho : w'.ownsRow w.heap.size 47 4 v (n1 + n2) (xs1 ++ xs2)) (e1 : n1 = T1.length) (e2 : n2 = T2.length) (ht : Tch (fun k => u.ownBlock = some k) w2 w') : WaysPost w (T1 ++ T2) (.returned v) w' := by
  subst e1 e2
  have hs : Spares (fun k => u.ownBlock = some k) w2 3 := by
    intro k cs hk e
    rcases h1.2 with ⟨rfl, _⟩ | ⟨g, cap, cur, rfl, _, hg, _⟩
    · cases e
    · simp only [Value.ownBlock, Option.some.injEq] at e
      subst e
      rw [hg] at hk
      injection hk with hk
      injection hk with _ hk
      exact absurd hk (by decide)
  refine ⟨v, xs1 ++ xs2, rfl, by rw [List.length_append]; exact ho, (c1.append h1.1 c2).keep ht hs, hb.trans (ht.below hb.size (fun g hg h => by have := (h1.lt g h).1; omega))⟩
set_option maxHeartbeats 40000000 in
set_option maxRecDepth 100000 in
theorem ways_any (f : List Nd) (Af : Option Addr) (cf : Nat) (Ab : Option Addr) (nb cb : Nat) (hN : isN f = true) (hl : f.length ≤ 1000) (hnb : nb = (spans f).length) (B : Nat) : ∀ (n : Nat) (x : Way) (na bn : Int) (A1 : Option Addr) (n1 c1 : Nat) (A2 : Option Addr) (n2 c2 : Nat) (A3 : Option Addr) (n3 c3 : Nat) (w : World),
    Sl w B 2 Af f.length cf (ncells f) → Sl w B 1 Ab nb cb (icells (spans f)) → B ≤ w.heap.size → RR w x A1 c1 A2 c2 A3 c3 → RC f n x → na = (x.need : Int) → bn = (x.ban : Int) → n1 = (onL x.next).length → n2 = (onL x.now).length → n3 = x.todo.length →
    Calls Try.prog 48 #[.slice Af f.length cf, .slice Ab nb cb, .agg #[.int .u64 na, .int .u64 bn, .slice A1 n1 c1, .slice A2 n2 c2], .slice A3 n3 c3] w (WaysPost w ((leaves f n x).map Way.cov)) := by
  intro n
  induction n with
  | zero => intro x _ _ _ _ _ _ _ _ _ _ _ w _ _ _ _ hc; exact absurd hc.cnt (by omega)
  | succ n ih =>
  intro x na bn A1 n1 c1 A2 n2 c2 A3 n3 c3 w hf hs hB hr hc ena enb en1 en2 en3
  subst ena enb en1 en2 en3 hnb
  have IH := Lib.hid ih
  have HN := Lib.hid hN
  have HC := Lib.hid hc
  have hn1 : (onL x.next).length ≤ 1000 := Nat.le_trans (onL_len _) (by rw [hc.ok.next]; exact hl)
  have hn2 : (onL x.now).length ≤ 1000 := Nat.le_trans (onL_len _) (by rw [hc.ok.now]; exact hl)
  have hn3 : x.todo.length ≤ 1000000 := by have := hc.todo; omega
  have HR := Lib.hid hr
  have HF := Lib.hid hf
  have HS := Lib.hid hs
  have hcf := hf.cap
  have hcb := hs.cap
  have hk1 := hr.next.sl.cap
  have hk2 := hr.now.sl.cap
  have hb0 : Below w.heap.size w (w.alloc (.cells #[.int .u64 (x.need : Int), .int .u64 (x.ban : Int), .slice A1 (onL x.next).length c1, .slice A2 (onL x.now).length c2] 47)) := (Below.refl _ _).alloc (Nat.le_refl _) _
  have hx0 := heap_alloc_new w (.cells #[.int .u64 (x.need : Int), .int .u64 (x.ban : Int), .slice A1 (onL x.next).length c1, .slice A2 (onL x.now).length c2] 47)
  have hxz : (w.alloc (.cells #[.int .u64 (x.need : Int), .int .u64 (x.ban : Int), .slice A1 (onL x.next).length c1, .slice A2 (onL x.now).length c2] 47)).heap.size = w.heap.size + 1 := by simp
  obtain ⟨W0, hW0⟩ : ∃ W0, w.alloc (.cells #[.int .u64 (x.need : Int), .int .u64 (x.ban : Int), .slice A1 (onL x.next).length c1, .slice A2 (onL x.now).length c2] 47) = W0 := ⟨_, rfl⟩
  rw [hW0] at hb0 hx0 hxz
  have HW0 := Lib.hid hW0
  have HB0 := Lib.hid hb0
  have HX0 := Lib.hid hx0
  clear hW0 hr hf hs hc ih hN hb0 hx0
  go_enter Try.func48, Try.ntmps48
  go_wp2_with fail
  rw [HW0.out]
  go_loopw [3] (fun v wr => ∃ (l : List Nat) (A : Option Addr) (c : Nat), v = .slice A l.length c ∧ Below W0.heap.size W0 wr ∧ Sl w w.heap.size 1 A l.length c (icells (natI l)) ∧ Hid (skipL x.now l = skipL x.now x.todo) ∧ l.length ≤ x.todo.length) (fun v _ => slLen v)
  case atStart => exact ⟨x.todo, A3, c3, rfl, Below.refl _ _, HR.out.todo, rfl, by omega⟩
  case round =>
    obtain ⟨l, A, c, rfl, hbr, hT, HSK, hll⟩ := hrel
    have hszr := hbr.size
    have q0 := (hbr.block w.heap.size (by omega)).trans HX0.out
    obtain ⟨k0, k1, k2, k3⟩ := cell4 q0
    have Q0 := Lib.hid q0
    clear q0
    cases l with
    | nil =>
      have HE : Hid (leaves f (n + 1) x = [x]) := Lib.hid (leaves_end (by rw [← HSK.out]; rfl))
      go_wp2_with fail
      refine wp_region_held_drew (S := fun w' => w'.cell? ⟨w.heap.size, 3, none⟩ = some (.slice A2 (onL x.now).length c2)) (by kernel_rfl) (k3) (fun hS => ?_)
      refine wpAnyH_takeD (i := 0) (v := ?_) rfl (by kernel_rfl) (by kernel_rfl) (by kernel_rfl) (fun _ _ _ h => h) (Or.inl ⟨by kernel_rfl, ?_⟩) hS ?_
      rotate_left 1
      · (intro w' hSw; (try dsimp only at hSw); go_simp; try (with_reducible rfl))
      try simp only [Act.put, List.setIfInBounds_toArray, List.set_cons_zero, List.set_cons_succ]
      refine wpAnyH_takeD (i := 1) (v := ?_) rfl (by kernel_rfl) (by kernel_rfl) (by kernel_rfl) (fun _ _ _ h => h) (Or.inl ⟨by kernel_rfl, ?_⟩) hS ?_
      rotate_left 1
      · (intro w' hSw; (try dsimp only at hSw); go_simp; try (with_reducible rfl))
      try simp only [Act.put, List.setIfInBounds_toArray, List.set_cons_zero, List.set_cons_succ]
      refine wpAnyH_takeD (i := 2) (v := ?_) rfl (by kernel_rfl) (by kernel_rfl) (by kernel_rfl) (fun _ _ _ h => h) (Or.inl ⟨by kernel_rfl, ?_⟩) hS ?_
      rotate_left 1
      · (intro w' hSw; (try dsimp only at hSw); go_simp; try (with_reducible rfl))
      try simp only [Act.put, List.setIfInBounds_toArray, List.set_cons_zero, List.set_cons_succ]
      refine wpAnyH_takeD (i := 3) (v := ?_) rfl (by kernel_rfl) (by kernel_rfl) (by kernel_rfl) (fun _ _ _ h => h) (Or.inl ⟨by kernel_rfl, ?_⟩) hS ?_
      rotate_left 1
      · (intro w' hSw; (try dsimp only at hSw); go_simp; try (with_reducible rfl))
      try simp only [Act.put, List.setIfInBounds_toArray, List.set_cons_zero, List.set_cons_succ]
      refine wpAnyH_takeD (i := 4) (v := undef) rfl (by kernel_rfl) (by kernel_rfl) (by kernel_rfl) (fun _ _ _ h => h) (Or.inr ⟨by kernel_rfl, rfl⟩) hS ?_
      try simp only [Act.put, List.setIfInBounds_toArray, List.set_cons_zero, List.set_cons_succ]
      refine wpAnyH_takeD (i := 5) (v := undef) rfl (by kernel_rfl) (by kernel_rfl) (by kernel_rfl) (fun _ _ _ h => h) (Or.inr ⟨by kernel_rfl, rfl⟩) hS ?_
      try simp only [Act.put, List.setIfInBounds_toArray, List.set_cons_zero, List.set_cons_succ]
      refine wpAnyH_takeD (i := 6) (v := undef) rfl (by kernel_rfl) (by kernel_rfl) (by kernel_rfl) (fun _ _ _ h => h) (Or.inr ⟨by kernel_rfl, rfl⟩) hS ?_
      try simp only [Act.put, List.setIfInBounds_toArray, List.set_cons_zero, List.set_cons_succ]
      refine wpAnyH_takeD (i := 7) (v := undef) rfl (by kernel_rfl) (by kernel_rfl) (by kernel_rfl) (fun _ _ _ h => h) (Or.inr ⟨by kernel_rfl, rfl⟩) hS ?_
      try simp only [Act.put, List.setIfInBounds_toArray, List.set_cons_zero, List.set_cons_succ]
      refine wpAnyH_takeD (i := 8) (v := undef) rfl (by kernel_rfl) (by kernel_rfl) (by kernel_rfl) (fun _ _ _ h => h) (Or.inr ⟨by kernel_rfl, rfl⟩) hS ?_
      try simp only [Act.put, List.setIfInBounds_toArray, List.set_cons_zero, List.set_cons_succ]
      refine wpAnyH_takeD (i := 9) (v := undef) rfl (by kernel_rfl) (by kernel_rfl) (by kernel_rfl) (fun _ _ _ h => h) (Or.inr ⟨by kernel_rfl, rfl⟩) hS ?_
      try simp only [Act.put, List.setIfInBounds_toArray, List.set_cons_zero, List.set_cons_succ]
      refine wpAnyH_takeD (i := 10) (v := ?_) rfl (by kernel_rfl) (by kernel_rfl) (by kernel_rfl) (fun _ _ _ h => h) (Or.inl ⟨by kernel_rfl, ?_⟩) hS ?_
      rotate_left 1
      · (intro w' hSw; (try dsimp only at hSw); go_simp; try (with_reducible rfl))
      try simp only [Act.put, List.setIfInBounds_toArray, List.set_cons_zero, List.set_cons_succ]
      refine wpAnyH_done (by kernel_rfl) ?_ _
      have hbw : Below w.heap.size w wr := HB0.out.trans (hbr.mono (by omega))
      go_wp2_with fail
      go_ret
      rw [HE.out]
      refine ways_drew1 (ways_one hbw HR.out)
    | cons j t =>
      have hct := hT.cap
      have hmax := hT.max
      have HT := Lib.hid hT
      obtain ⟨b, o, rfl, hbb0, hj0⟩ := hT.rd.at_ (icells_at' (l := natI (j :: t)) (k := 0) (by simp [natI]))
      have hbd : Below wr.heap.size wr wr.drew := Below.drew (Below.refl _ _)
      obtain ⟨wd, hwd⟩ : ∃ wd, wr.drew = wd := ⟨_, rfl⟩
      rw [hwd] at hbd
      have HWD := Lib.hid hwd
      clear hwd
      have hbd0 : Below w.heap.size w wd := HB0.out.trans ((hbr.trans (hbd.mono hszr)).mono (by omega))
      have HIN := Lib.hid (inR_any A2 (onL x.now).length c2 (natI (onL x.now)) j wd w.heap.size (by simp [natI]) (HR.out.now.sl.below hbd0 (Nat.le_refl _)) hbd0.size (by omega))
      rw [on_any] at HIN
      have hbwr : Below w.heap.size w wr := HB0.out.trans (hbr.mono (by omega))
      have hbb : b < wr.heap.size := Nat.lt_of_lt_of_le hbb0 hbwr.size
      have hj : wr.cell? ⟨b, o, none⟩ = some (.int .i64 (j : Int)) := (hbwr.cell (p := ⟨b, o, none⟩) hbb0).trans (by simpa [natI] using hj0)
      clear hT hj0
      obtain ⟨A', hif⟩ : ∃ A', (if c = 1 then some (⟨b, o, none⟩ : Addr) else some ⟨b, o + 1, none⟩) = A' := ⟨_, rfl⟩
      have HTT : Hid (Sl w w.heap.size 1 A' t.length (c - 1) (icells (natI t))) := Lib.hid (by rw [← hif]; exact Sl.tail1 HT.out)
      cases hnow : x.now.getD j false
      · rw [hnow] at HIN
        go_wp2_with fail
        refine wp_region_held_drew (S := fun w' => w'.cell? ⟨w.heap.size, 3, none⟩ = some (.slice A2 (onL x.now).length c2) ∧ w'.cell? ⟨b, o, none⟩ = some (.int .i64 (j : Int))) (by kernel_rfl) ⟨k3, hj⟩ (fun hS => ?_)
        refine wpAnyH_takeD (i := 0) (v := ?_) rfl (by kernel_rfl) (by kernel_rfl) (by kernel_rfl) (fun _ _ _ h => h) (Or.inl ⟨by kernel_rfl, ?_⟩) hS ?_
        rotate_left 1
        · (intro w' hSw; (try dsimp only at hSw); go_simp; try (with_reducible rfl))
        try simp only [Act.put, List.setIfInBounds_toArray, List.set_cons_zero, List.set_cons_succ]
        refine wpAnyH_takeD (i := 1) (v := ?_) rfl (by kernel_rfl) (by kernel_rfl) (by kernel_rfl) (fun _ _ _ h => h) (Or.inl ⟨by kernel_rfl, ?_⟩) hS ?_
        rotate_left 1
        · (intro w' hSw; (try dsimp only at hSw); go_simp; try (with_reducible rfl))
        try simp only [Act.put, List.setIfInBounds_toArray, List.set_cons_zero, List.set_cons_succ]
        refine wpAnyH_takeD (i := 2) (v := ?_) rfl (by kernel_rfl) (by kernel_rfl) (by kernel_rfl) (fun _ _ _ h => h) (Or.inl ⟨by kernel_rfl, ?_⟩) hS ?_
        rotate_left 1
        · (intro w' hSw; (try dsimp only at hSw); go_simp; try (with_reducible rfl))
        try simp only [Act.put, List.setIfInBounds_toArray, List.set_cons_zero, List.set_cons_succ]
        refine wpAnyH_takeD (i := 3) (v := ?_) rfl (by kernel_rfl) (by kernel_rfl) (by kernel_rfl) (fun _ _ _ h => h) (Or.inl ⟨by kernel_rfl, ?_⟩) hS ?_
        rotate_left 1
        · (intro w' hSw; (try dsimp only at hSw); go_simp; try (with_reducible rfl))
        try simp only [Act.put, List.setIfInBounds_toArray, List.set_cons_zero, List.set_cons_succ]
        refine wpAnyH_takeD (i := 4) (v := ?_) rfl (by kernel_rfl) (by kernel_rfl) (by kernel_rfl) (fun _ _ _ h => h) (Or.inl ⟨by kernel_rfl, ?_⟩) hS ?_
        rotate_left 1
        · (intro w' hSw; (try dsimp only at hSw); go_simp; try (with_reducible rfl))
        try simp only [Act.put, List.setIfInBounds_toArray, List.set_cons_zero, List.set_cons_succ]
        refine wpAnyH_takeD (i := 5) (v := ?_) rfl (by kernel_rfl) (by kernel_rfl) (by kernel_rfl) (fun _ _ _ h => h) (Or.inl ⟨by kernel_rfl, ?_⟩) hS ?_
        rotate_left 1
        · (intro w' hSw; (try dsimp only at hSw); go_simp; try (with_reducible rfl))
        try simp only [Act.put, List.setIfInBounds_toArray, List.set_cons_zero, List.set_cons_succ]
        refine wpAnyH_takeD (i := 6) (v := ?_) rfl (by kernel_rfl) (by kernel_rfl) (by kernel_rfl) (fun _ _ _ h => h) (Or.inl ⟨by kernel_rfl, ?_⟩) hS ?_
        rotate_left 1
        · (intro w' hSw; (try dsimp only at hSw); go_simp; try (with_reducible rfl))
        try simp only [Act.put, List.setIfInBounds_toArray, List.set_cons_zero, List.set_cons_succ]
        refine wpAnyH_takeD (i := 7) (v := ?_) rfl (by kernel_rfl) (by kernel_rfl) (by kernel_rfl) (fun _ _ _ h => h) (Or.inl ⟨by kernel_rfl, ?_⟩) hS ?_
        rotate_left 1
        · (intro w' hSw; (try dsimp only at hSw); go_simp; try (with_reducible rfl))
        try simp only [Act.put, List.setIfInBounds_toArray, List.set_cons_zero, List.set_cons_succ]
        refine wpAnyH_takeD (i := 8) (v := ?_) rfl (by kernel_rfl) (by kernel_rfl) (by kernel_rfl) (fun _ _ _ h => h) (Or.inl ⟨by kernel_rfl, ?_⟩) hS ?_
        rotate_left 1
        · (intro w' hSw; (try dsimp only at hSw); go_simp; try (with_reducible rfl))
        try simp only [Act.put, List.setIfInBounds_toArray, List.set_cons_zero, List.set_cons_succ]
        refine wpAnyH_oneD (i := 9) rfl (by kernel_rfl) (fun K hK => ?_)
        rw [if_pos (by kernel_rfl)]
        go_simp
        rw [HWD.out]
        refine Calls.mono HIN.out ?_
        rintro e w1 ⟨rfl, hb1'⟩
        have hb1 : Below wr.heap.size wr w1 := hbd.trans (hb1'.mono hbd.size)
        clear hb1'
        dsimp only
        refine hK.out _ _ ⟨(hb1.cell (p := ⟨w.heap.size, 3, none⟩) (show w.heap.size < wr.heap.size by omega)).trans k3, (hb1.cell (p := ⟨b, o, none⟩) hbb).trans hj⟩ (fun hS => ?_)
        clear hK
        try simp only [Act.put, List.setIfInBounds_toArray, List.set_cons_zero, List.set_cons_succ]
        refine wpAnyH_takeD (i := 10) (v := ?_) rfl (by kernel_rfl) (by kernel_rfl) (by kernel_rfl) (fun _ _ _ h => h) (Or.inl ⟨by kernel_rfl, ?_⟩) hS ?_
        rotate_left 1
        · (intro w' hSw; (try dsimp only at hSw); go_simp; try (with_reducible rfl))
        try simp only [Act.put, List.setIfInBounds_toArray, List.set_cons_zero, List.set_cons_succ]
        refine wpAnyH_done (by kernel_rfl) ?_ _
        have hj1 := (hb1.cell (p := ⟨b, o, none⟩) hbb).trans hj
        have hsk : skipL x.now x.todo = j :: t := by rw [← HSK.out]; exact skip_stop hnow
        obtain ⟨hm1, hm2, hjl⟩ := made_ok HC.out.ok hsk
        have HSP := Lib.hid hsk
        have HMK := Lib.hid hm1
        have HKID := Lib.hid (HC.out.kid HN.out hsk)
        have HLV : Hid (leaves f (n + 1) x = (splitW f j (x.made j t)).flatMap (leaves f n)) := Lib.hid (leaves_step hsk)
        obtain ⟨hpk1, hpk2⟩ := parts_kids HN.out hjl
        have hb01 : Below w.heap.size w w1 := HB0.out.trans ((hbr.trans (hb1.mono hszr)).mono (by omega))
        have HPA := Lib.hid (Parts_any Af f.length cf f Ab (spans f).length cb (spans f) j w1 B B rfl rfl (HF.out.below hb01 hB) (HS.out.below hb01 hB) (Nat.le_trans hB hb01.size) (Nat.le_trans hB hb01.size) (by omega) hjl (fun h => by
          obtain ⟨h1, v, hv, h3, h4⟩ := hpk2 h
          exact ⟨h1, v, hv, h3, by omega⟩))
        rw [hpk1] at HPA
        obtain ⟨bf, of, rfl, hbf, hop0, hop1⟩ := rd_nd HF.out.rd hjl
        rw [show f[j] = f.getD j ⟨0, 0⟩ by simp [List.getD, hjl]] at hop0 hop1
        have HTD := HTT
        have hq1 := (hb1.block w.heap.size (heap_lt Q0.out)).trans Q0.out
        have hz1 := hb01.size
        have hz01 : w.heap.size < w1.heap.size := heap_lt hq1
        have HQ1 := Lib.hid hq1
        have HB1 := Lib.hid hb01
        clear hsk hm1 hm2 hpk1 hpk2 hq1 hb01 hb1 hbr hnow HIN HTT HT Q0 HSK hj k0 k1 k2 k3 HWD hbd hbd0 hxz hszr HW0 HB0 HX0 hbb
        go_wp2_with fail
        clear hif
        refine Calls.mono HPA.out ?_
        rintro e w3 ⟨rfl, hb3⟩
        have hb03 := HB1.out.trans (hb3.mono hz1)
        have hq3 := (hb3.block w.heap.size hz01).trans HQ1.out
        have hz3 := hb3.size
        obtain ⟨k0, k1, k2, k3⟩ := cell4 hq3
        have HP1 := Lib.hid (putR_any A2 (onL x.now).length c2 (onL x.now) j w3 w.heap.size rfl (HR.out.now.sl.below hb03 (Nat.le_refl _)) hb03.size (by omega))
        rw [putF_on (l := x.now) (i := j) (by rw [HC.out.ok.now]; exact hjl)] at HP1
        go_wp2_with fail
        refine Calls.mono HP1.out ?_
        rintro e w4 ⟨v4, rfl, ho4, hb4⟩
        obtain ⟨An, cn, rfl, hT4⟩ := TSl.of_own ho4
        have hb04 := hb03.trans (hb4.mono hb03.size)
        have hq4 := (hb4.block w.heap.size (by omega)).trans hq3
        have hz4 := hb4.size
        have kf3 := frozen_of_row _ _ 3 _ _ hq4
        clear k0 k1 k2 k3
        obtain ⟨k0, k1, k2, k3⟩ := cell4 hq4
        have hg46 : ¬ (w.heap.size = w4.heap.size) := by omega
        have hg64 : ¬ (w4.heap.size = w.heap.size) := by omega
        have hm4 : (onL (x.now.set j true)).length ≤ 1000 := Nat.le_trans (onL_len _) (by rw [List.length_set, HC.out.ok.now]; exact hl)
        have hc4 := hT4.sl.cap
        have hz04 : w.heap.size < w4.heap.size := by omega
        have p2 := fun v => (cell_in hq4 3 2 (by decide) v).trans k2
        have HQ4 := Lib.hid hq4
        have HB4 := Lib.hid hb04
        have HT4 := Lib.hid hT4
        clear hq3 hq4 hb03 hb04 hb3 hb4 ho4 hT4 HQ1 HP1 HPA
        go_wp2_with fail
        obtain ⟨V, hV⟩ : ∃ V, (w4.setCell ⟨w.heap.size, 3, none⟩ (.slice An (onL (x.now.set j true)).length cn)).alloc (.cells #[.int .u64 (x.need : Int), .int .u64 (x.ban : Int), .slice A1 (onL x.next).length c1, .slice An (onL (x.now.set j true)).length cn] 47) = V := ⟨_, rfl⟩
        rw [hV]
        obtain ⟨hbV, htV, hgV, hlV, hzV⟩ := later_world' HQ4.out HB4.out (Nat.le_refl _) hV.symm
        clear hV p2 k0 k1 k2 k3 kf3
        have HP2 := Lib.hid (putR_any A1 (onL x.next).length c1 (onL x.next) j V w.heap.size rfl (HR.out.next.sl.below hbV (Nat.le_refl _)) hbV.size (by omega))
        rw [putF_on (l := x.next) (i := j) (by rw [HC.out.ok.next]; exact hjl)] at HP2
        refine Calls.mono HP2.out ?_
        rintro e w5 ⟨v5, rfl, ho5, hb5⟩
        obtain ⟨Ax, cx, rfl, hT5⟩ := TSl.of_own ho5
        have hz5 := hb5.size
        have hbw5 := hbV.trans (hb5.mono hbV.size)
        have g5 := (hb5.block w.heap.size (by omega)).trans hgV
        have l5 := (hb5.block w4.heap.size (by omega)).trans hlV
        have hn5 : (onL (x.next.set j true)).length ≤ 1000 := Nat.le_trans (onL_len _) (by rw [List.length_set, HC.out.ok.next]; exact hl)
        have hc5 := hT5.sl.cap
        have m5 := (cell4 l5).2.2.1
        have fr5 := frozen_of_row _ _ 2 _ _ l5
        obtain ⟨W6, hW6⟩ : ∃ W6, w5.setCell ⟨w4.heap.size, 2, none⟩ (.slice Ax (onL (x.next.set j true)).length cx) = W6 := ⟨_, rfl⟩
        have t6 : Tch (fun k => k = w4.heap.size) w5 W6 := by rw [← hW6]; exact (Tch.refl (fun k => k = w4.heap.size) w5).setCell (p := ⟨w4.heap.size, 2, none⟩) (fun _ => rfl) _
        have g6 := t6.blk g5 (by omega)
        have l6 : W6.heap[w4.heap.size]? = some (.cells #[.int .u64 (x.need : Int), .int .u64 (x.ban : Int), .slice Ax (onL (x.next.set j true)).length cx, .slice An (onL (x.now.set j true)).length cn] 47 (0, 0)) := by rw [← hW6, heap_setCell_same _ _ 2 _ _ _ l5]; rfl
        have hb6 : Below w.heap.size w W6 := hbw5.trans (t6.below hbw5.size (fun k hk e => by omega))
        have hNX := hT5.keep t6 (spares_one l5 (by decide))
        have hNW := ((HT4.out.keep htV (spares_one HQ4.out (by decide))).below hb5).keep t6 (spares_one l5 (by decide))
        have hN1 := HR.out.next.below hb6
        have HIH : Hid (∀ (y : Way), y ∈ splitW f j (x.made j t) → ∀ (na bn : Int) (A1 : Option Addr) (n1 c1 : Nat) (A2 : Option Addr) (n2 c2 : Nat) (A3 : Option Addr) (n3 c3 : Nat) (w' : World), Below W6.heap.size W6 w' → RR w' y A1 c1 A2 c2 A3 c3 → na = (y.need : Int) → bn = (y.ban : Int) → n1 = (onL y.next).length → n2 = (onL y.now).length → n3 = y.todo.length →
            Calls Try.prog 48 #[.slice (some ⟨bf, of, none⟩) f.length cf, .slice Ab (spans f).length cb, .agg #[.int .u64 na, .int .u64 bn, .slice A1 n1 c1, .slice A2 n2 c2], .slice A3 n3 c3] w' (WaysPost w' ((leaves f n y).map Way.cov))) :=
          Lib.hid (fun y hy na bn A1 n1 c1 A2 n2 c2 A3 n3 c3 w' hb' hr e1 e2 e3 e4 e5 => have hbw := hb6.trans (hb'.mono hb6.size); IH.out y na bn A1 n1 c1 A2 n2 c2 A3 n3 c3 w' (HF.out.below hbw hB) (HS.out.below hbw hB) (Nat.le_trans hB hbw.size) hr (HKID.out y hy) e1 e2 e3 e4 e5)
        have HNX := Lib.hid hNX
        have HNW := Lib.hid hNW
        have HN1 := Lib.hid hN1
        have HG6 := Lib.hid g6
        have HL6 := Lib.hid l6
        have HB6 := Lib.hid hb6
        have hop6 := (hb6.cell (p := ⟨bf, of + j * 2, none⟩) (show bf < w.heap.size by omega)).trans hop0
        change W6.cell? ⟨bf, of + j * 2, none⟩ = some (.int .i64 (opAt f j)) at hop6
        have HZ6 : Hid (w.heap.size < W6.heap.size ∧ w4.heap.size < W6.heap.size ∧ w.heap.size < w4.heap.size) := Lib.hid ⟨heap_lt g6, heap_lt l6, by omega⟩
        have hlen3 : t.length ≤ 1000000 := by simp at hll; omega
        have hr3 : t.length + 2 * (n + 1) ≤ 1000000 := by have := HC.out.todo; simp at hll; omega
        have HAH1 := Lib.hid (fun (a : Nat) (w' : World) (hb : Below W6.heap.size W6 w') => ahead1_any A' t.length (c - 1) t a w' w.heap.size rfl (HTD.out.below (HB6.out.trans (hb.mono HB6.out.size)) (Nat.le_refl _)) (HB6.out.trans (hb.mono HB6.out.size)).size (by omega))
        have HAH2 := Lib.hid (fun (a b : Nat) (w' : World) (hb : Below W6.heap.size W6 w') => ahead2_any A' t.length (c - 1) t a b w' w.heap.size rfl (HTD.out.below (HB6.out.trans (hb.mono HB6.out.size)) (Nat.le_refl _)) (HB6.out.trans (hb.mono HB6.out.size)).size (by omega))
        have HT6 : Hid (∀ {A : Option Addr} {n c : Nat} {xs : List Value} {w' : World}, TSl W6 3 A n c xs → Below W6.heap.size W6 w' → TSl w' 3 A n c xs) := Lib.hid (fun h hb => h.below hb)
        have HOP := Lib.hid (ndF HN.out hjl)
        clear ho5 hb5 hT5 hbV htV hgV hlV hzV HP2 hbw5 g5 l5 t6 hNX hNW hN1 hz5 hb6 hop0 HT4 HQ4 HB4
        obtain ⟨k0, k1, k2, k3⟩ := cell4 g6
        obtain ⟨l0, l1, l2, l3⟩ := cell4 l6
        clear g6 l6 hg46 hg64
        rcases HOP.out.op with e | e | e | e | e | e | e | e | e
        · have HE := Lib.hid e
          have HSPL : Hid (splitW f j (x.made j t) = [x.made j t]) := Lib.hid (by unfold splitW; rw [e]; rfl)
          rw [e] at hop6
          have hand := and_u64' (x := x.need) (y := x.ban) (by have := HC.out.need; omega) (by have := HC.out.ban; omega)
          rw [HC.out.and0] at hand
          go_wp2_with fail
          refine Calls.mono (HIH.out (x.made j t) (by rw [HSPL.out]; simp) (x.need : Int) (x.ban : Int) A1 (onL x.next).length c1 An (onL (x.now.set j true)).length cn A' t.length (c - 1) W6 (Below.refl _ _) ⟨HN1.out, HNW.out, (HTD.out.below HB6.out (Nat.le_refl _)).up HB6.out.size⟩ rfl rfl rfl rfl rfl) ?_
          obtain ⟨T1, hT1⟩ : ∃ T, (leaves f n (x.made j t)).map Way.cov = T := ⟨_, rfl⟩
          rw [hT1]
          have HTT1 := Lib.hid hT1
          clear hT1
          rintro e w9 ⟨u9, xs9, rfl, ho9, hcv9, hb9⟩
          have H9 : Hid (WaysPost W6 T1 (.returned u9) w9) := Lib.hid ⟨u9, xs9, rfl, ho9, hcv9, hb9⟩
          clear ho9 hcv9 hb9
          go_wp2_with fail
          go_ret
          rw [HLV.out, HSPL.out]
          show WaysPost w (List.map Way.cov (leaves f n (x.made j t) ++ [])) _ _
          rw [List.append_nil, HTT1.out]
          exact ways_base HB6.out H9.out
        · have HE := Lib.hid e
          have HSPL : Hid (splitW f j (x.made j t) = []) := Lib.hid (by unfold splitW; rw [e]; rfl)
          rw [e] at hop6
          go_wp2_with fail
          go_ret
          rw [HLV.out, HSPL.out]
          exact ways_none HB6.out
        · have HE := Lib.hid e
          obtain ⟨hk, hk8⟩ := HOP.out.prop e
          have hop7 := (HB6.out.cell (p := ⟨bf, of + j * 2 + 1, none⟩) (show bf < w.heap.size by omega)).trans hop1
          rw [hk] at hop7
          have HSP0 : Hid (splitW f j (x.made j t) = finW { x.made j t with need := x.need ||| 2 ^ nAt f j }) := Lib.hid (by unfold splitW; rw [e]; rfl)
          generalize nAt f j = p at *
          clear hk hop1
          rw [e] at hop6
          have hwp := wrap_pow8 hk8
          have hp8 : 2 ^ p < 256 := by have : 2 ^ p < 2 ^ 8 := Nat.pow_lt_pow_right (by omega) hk8; omega
          have hxn := HC.out.need
          have hxb := HC.out.ban
          have hor := or_u64 (x := x.need) (y := 2 ^ p) (by omega) (by omega)
          have hlt : x.need ||| 2 ^ p < 2 ^ 8 := Nat.or_lt_two_pow (by omega) (by omega)
          have hand := and_u64' (x := x.need ||| 2 ^ p) (y := x.ban) (by omega) (by omega)
          generalize hq : 2 ^ p = q at *
          generalize hm : x.need ||| q = m at *
          have HQ := Lib.hid hq
          have HM := Lib.hid hm
          clear hq hm
          have hpw : IntKind.u64.wrap (p : Int) = (p : Int) := by rw [IntKind.wrap_u64]; omega
          have kf := frozen_of_row _ _ 0 _ _ HG6.out
          go_wp2_with fail
          refine wp_region_T (S := fun w' => w'.cell? ⟨w.heap.size, 0, none⟩ = some (.int .u64 (x.need : Int)) ∧ w'.cell? ⟨bf, of + j * 2 + 1, none⟩ = some (.int .i64 (p : Int))) 11 (by kernel_rfl) (⟨k0, hop7⟩) (fun hS => ?_)
          refine wpAnyT_takeD (i := 0) (v := ?_) rfl (by kernel_rfl) (by kernel_rfl) (by kernel_rfl) (by kernel_rfl) (fun _ _ _ h => h) (Or.inl ⟨by kernel_rfl, ?_⟩) hS ?_
          rotate_left 1
          · (intro w' hSw; (try dsimp only at hSw); go_simp; try (with_reducible rfl))
          try simp only [Act.put, List.setIfInBounds_toArray, List.set_cons_zero, List.set_cons_succ]
          refine wpAnyT_takeD (i := 1) (v := ?_) rfl (by kernel_rfl) (by kernel_rfl) (by kernel_rfl) (by kernel_rfl) (fun _ _ _ h => h) (Or.inl ⟨by kernel_rfl, ?_⟩) hS ?_
          rotate_left 1
          · (intro w' hSw; (try dsimp only at hSw); go_simp; try (with_reducible rfl))
          try simp only [Act.put, List.setIfInBounds_toArray, List.set_cons_zero, List.set_cons_succ]
          refine wpAnyT_takeD (i := 2) (v := ?_) rfl (by kernel_rfl) (by kernel_rfl) (by kernel_rfl) (by kernel_rfl) (fun _ _ _ h => h) (Or.inl ⟨by kernel_rfl, ?_⟩) hS ?_
          rotate_left 1
          · (intro w' hSw; (try dsimp only at hSw); go_simp; try (with_reducible rfl))
          try simp only [Act.put, List.setIfInBounds_toArray, List.set_cons_zero, List.set_cons_succ]
          refine wpAnyT_takeD (i := 3) (v := ?_) rfl (by kernel_rfl) (by kernel_rfl) (by kernel_rfl) (by kernel_rfl) (fun _ _ _ h => h) (Or.inl ⟨by kernel_rfl, ?_⟩) hS ?_
          rotate_left 1
          · (intro w' hSw; (try dsimp only at hSw); go_simp; try (with_reducible rfl))
          try simp only [Act.put, List.setIfInBounds_toArray, List.set_cons_zero, List.set_cons_succ]
          refine wpAnyT_takeD (i := 4) (v := ?_) rfl (by kernel_rfl) (by kernel_rfl) (by kernel_rfl) (by kernel_rfl) (fun _ _ _ h => h) (Or.inl ⟨by kernel_rfl, ?_⟩) hS ?_
          rotate_left 1
          · (intro w' hSw; (try dsimp only at hSw); go_simp; try (with_reducible rfl))
          try simp only [Act.put, List.setIfInBounds_toArray, List.set_cons_zero, List.set_cons_succ]
          refine wpAnyT_takeD (i := 5) (v := ?_) rfl (by kernel_rfl) (by kernel_rfl) (by kernel_rfl) (by kernel_rfl) (fun _ _ _ h => h) (Or.inl ⟨by kernel_rfl, ?_⟩) hS ?_
          rotate_left 1
          · (intro w' hSw; (try dsimp only at hSw); go_simp; try (with_reducible rfl))
          try simp only [Act.put, List.setIfInBounds_toArray, List.set_cons_zero, List.set_cons_succ]
          refine wpAnyT_takeD (i := 6) (v := ?_) rfl (by kernel_rfl) (by kernel_rfl) (by kernel_rfl) (by kernel_rfl) (fun _ _ _ h => h) (Or.inl ⟨by kernel_rfl, ?_⟩) hS ?_
          rotate_left 1
          · (intro w' hSw; (try dsimp only at hSw); go_simp; try (with_reducible rfl))
          try simp only [Act.put, List.setIfInBounds_toArray, List.set_cons_zero, List.set_cons_succ]
          refine wpAnyT_takeD (i := 7) (v := ?_) rfl (by kernel_rfl) (by kernel_rfl) (by kernel_rfl) (by kernel_rfl) (fun _ _ _ h => h) (Or.inl ⟨by kernel_rfl, ?_⟩) hS ?_
          rotate_left 1
          · (intro w' hSw; (try dsimp only at hSw); go_simp; try (with_reducible rfl))
          try simp only [Act.put, List.setIfInBounds_toArray, List.set_cons_zero, List.set_cons_succ]
          refine wpAnyT_takeD (i := 8) (v := ?_) rfl (by kernel_rfl) (by kernel_rfl) (by kernel_rfl) (by kernel_rfl) (fun _ _ _ h => h) (Or.inl ⟨by kernel_rfl, ?_⟩) hS ?_
          rotate_left 1
          · (intro w' hSw; (try dsimp only at hSw); go_simp; try (with_reducible rfl))
          try simp only [Act.put, List.setIfInBounds_toArray, List.set_cons_zero, List.set_cons_succ]
          refine wpAnyT_takeD (i := 9) (v := ?_) rfl (by kernel_rfl) (by kernel_rfl) (by kernel_rfl) (by kernel_rfl) (fun _ _ _ h => h) (Or.inl ⟨by kernel_rfl, ?_⟩) hS ?_
          rotate_left 1
          · (intro w' hSw; (try dsimp only at hSw); go_simp; try (with_reducible rfl))
          try simp only [Act.put, List.setIfInBounds_toArray, List.set_cons_zero, List.set_cons_succ]
          refine wpAnyT_takeD (i := 10) (v := ?_) rfl (by kernel_rfl) (by kernel_rfl) (by kernel_rfl) (by kernel_rfl) (fun _ _ _ h => h) (Or.inl ⟨by kernel_rfl, ?_⟩) hS ?_
          rotate_left 1
          · (intro w' hSw; (try dsimp only at hSw); go_simp; try (with_reducible rfl))
          try simp only [Act.put, List.setIfInBounds_toArray, List.set_cons_zero, List.set_cons_succ]
          refine wpAnyT_endD rfl (by kernel_rfl) (by kernel_rfl) (fun K hK => ?_)
          go_simp
          refine hK.out _ _ ?_
          clear hK
          obtain ⟨W8, hW8⟩ : ∃ W8, (W6.setCell ⟨w.heap.size, 0, none⟩ (.int .u64 (m : Int))).drew = W8 := ⟨_, rfl⟩
          rw [hW8]
          have t0 := (Tch.refl (fun k => k = w.heap.size) W6).setCell (p := ⟨w.heap.size, 0, none⟩) (fun _ => rfl) (.int .u64 (m : Int))
          have t8 : Tch (fun k => k = w.heap.size) W6 W8 := by rw [← hW8]; exact ⟨t0.os, t0.tape, t0.output, t0.size, t0.block⟩
          have g8 : W8.heap[w.heap.size]? = some (.cells #[.int .u64 (m : Int), .int .u64 (x.ban : Int), .slice A1 (onL x.next).length c1, .slice An (onL (x.now.set j true)).length cn] 47 (0, 0)) := by
            rw [← hW8]
            show (W6.setCell ⟨w.heap.size, 0, none⟩ (.int .u64 (m : Int))).heap[w.heap.size]? = _
            rw [heap_setCell_same _ _ 0 _ _ _ HG6.out]; rfl
          have hb68 : Below w.heap.size w W8 := HB6.out.trans (t8.below HB6.out.size (fun k hk e => by omega))
          have s7 := spares_one HG6.out (t := 3) (by decide)
          have hRR : RR W8 ({ x.made j t with need := m }) A1 c1 An cn A' (c - 1) := ⟨HN1.out.keep t8 s7, HNW.out.keep t8 s7, (HTD.out.below hb68 (Nat.le_refl _)).up hb68.size⟩
          have HRR := Lib.hid hRR
          have HB8 := Lib.hid hb68
          have HW8 := Lib.hid hW8
          obtain ⟨q0, q1, q2, q3⟩ := cell4 g8
          clear hW8 t0 t8 g8 s7 hRR hb68 k0 k1 k2 k3 l0 l1 l2 l3 hor hwp hpw hp8 hop7 kf hop6
          by_cases hz : m &&& x.ban = 0
          · have HSPL : Hid (splitW f j (x.made j t) = [{ x.made j t with need := m }]) := Lib.hid (by rw [HSP0.out]; unfold finW; exact if_pos hz)
            have HIH2 := Lib.hid (IH.out ({ x.made j t with need := m }) (m : Int) (x.ban : Int) A1 (onL x.next).length c1 An (onL (x.now.set j true)).length cn A' t.length (c - 1) W8 (HF.out.below HB8.out hB) (HS.out.below HB8.out hB) (Nat.le_trans hB HB8.out.size) HRR.out (HKID.out _ (by rw [HSPL.out]; simp)) rfl rfl rfl rfl rfl)
            rw [hz] at hand
            clear hz
            go_wp2_with fail
            refine Calls.mono HIH2.out ?_
            obtain ⟨T1, hT1⟩ : ∃ T, (leaves f n ({ x.made j t with need := m })).map Way.cov = T := ⟨_, rfl⟩
            rw [hT1]
            have HTT1 := Lib.hid hT1
            clear hT1
            rintro e w9 ⟨u9, xs9, rfl, ho9, hcv9, hb9⟩
            have H9 : Hid (WaysPost W8 T1 (.returned u9) w9) := Lib.hid ⟨u9, xs9, rfl, ho9, hcv9, hb9⟩
            clear ho9 hcv9 hb9
            go_wp2_with fail
            go_ret
            rw [HLV.out, HSPL.out]
            show WaysPost w (List.map Way.cov (leaves f n ({ x.made j t with need := m }) ++ [])) _ _
            rw [List.append_nil, HTT1.out]
            exact ways_base HB8.out H9.out
          · have HSPL : Hid (splitW f j (x.made j t) = []) := Lib.hid (by rw [HSP0.out]; unfold finW; exact if_neg hz)
            obtain ⟨zz, hzz⟩ : ∃ zz, m &&& x.ban = zz := ⟨_, rfl⟩
            rw [hzz] at hand hz
            have hne : (((zz : Nat) : Int) != 0) = true := by simpa using hz
            clear hz
            go_wp2_with fail
            go_ret
            rw [HLV.out, HSPL.out]
            exact ways_none HB8.out
        · have HE := Lib.hid e
          obtain ⟨h1j, hk, hk8⟩ := HOP.out.lit e
          obtain ⟨i, hi⟩ : ∃ i, j = i + 1 := ⟨j - 1, by omega⟩
          have hkd : kids f j = ((i : Int), -1) := by
            obtain ⟨l', r', h⟩ := node_eq (bits := fun _ _ => false) (n := 1) (lp := 0) HN.out (by omega) (at_of hjl)
            obtain ⟨a, b, _⟩ := h.kid1 (.inl e)
            obtain ⟨_, _, el⟩ := h.kid1 (.inl e)
            rw [a, show l' = i by omega]
          have HSP0 : Hid (splitW f j (x.made j t) = finW { x.made j t with ban := x.ban ||| 2 ^ nAt f (j - 1) }) := Lib.hid (by unfold splitW; rw [e]; rfl)
          rw [show j - 1 = i by omega] at hk hk8 HSP0
          obtain ⟨b', o', he, -, -, hc7⟩ := rd_nd HF.out.rd (k := i) (by omega)
          cases he
          rw [show f[i] = f.getD i ⟨0, 0⟩ by simp [List.getD, show i < f.length by omega], hk] at hc7
          have hop7 := (HB6.out.cell (p := ⟨bf, of + i * 2 + 1, none⟩) (show bf < w.heap.size by omega)).trans hc7
          have hil : i < f.length := by omega
          rw [hkd]
          have HI := Lib.hid hi
          clear hi hc7 h1j
          generalize nAt f i = p at *
          clear hk hop1
          rw [e] at hop6
          have hwp := wrap_pow8 hk8
          have hp8 : 2 ^ p < 256 := by have : 2 ^ p < 2 ^ 8 := Nat.pow_lt_pow_right (by omega) hk8; omega
          have hxn := HC.out.need
          have hxb := HC.out.ban
          have hor := or_u64 (x := x.ban) (y := 2 ^ p) (by omega) (by omega)
          have hlt : x.ban ||| 2 ^ p < 2 ^ 8 := Nat.or_lt_two_pow (by omega) (by omega)
          have hand := and_u64' (x := x.need) (y := x.ban ||| 2 ^ p) (by omega) (by omega)
          generalize hq : 2 ^ p = q at *
          generalize hm : x.ban ||| q = m at *
          have HQ := Lib.hid hq
          have HM := Lib.hid hm
          clear hq hm
          have hpw : IntKind.u64.wrap (p : Int) = (p : Int) := by rw [IntKind.wrap_u64]; omega
          have kf := frozen_of_row _ _ 1 _ _ HG6.out
          go_wp2_with fail
          refine wp_region_T (S := fun w' => w'.cell? ⟨w.heap.size, 1, none⟩ = some (.int .u64 (x.ban : Int)) ∧ w'.cell? ⟨bf, of + i * 2 + 1, none⟩ = some (.int .i64 (p : Int))) 11 (by kernel_rfl) (⟨k1, hop7⟩) (fun hS => ?_)
          refine wpAnyT_takeD (i := 0) (v := ?_) rfl (by kernel_rfl) (by kernel_rfl) (by kernel_rfl) (by kernel_rfl) (fun _ _ _ h => h) (Or.inl ⟨by kernel_rfl, ?_⟩) hS ?_
          rotate_left 1
          · (intro w' hSw; (try dsimp only at hSw); go_simp; try (with_reducible rfl))
          try simp only [Act.put, List.setIfInBounds_toArray, List.set_cons_zero, List.set_cons_succ]
          refine wpAnyT_takeD (i := 1) (v := ?_) rfl (by kernel_rfl) (by kernel_rfl) (by kernel_rfl) (by kernel_rfl) (fun _ _ _ h => h) (Or.inl ⟨by kernel_rfl, ?_⟩) hS ?_
          rotate_left 1
          · (intro w' hSw; (try dsimp only at hSw); go_simp; try (with_reducible rfl))
          try simp only [Act.put, List.setIfInBounds_toArray, List.set_cons_zero, List.set_cons_succ]
          refine wpAnyT_takeD (i := 2) (v := ?_) rfl (by kernel_rfl) (by kernel_rfl) (by kernel_rfl) (by kernel_rfl) (fun _ _ _ h => h) (Or.inl ⟨by kernel_rfl, ?_⟩) hS ?_
          rotate_left 1
          · (intro w' hSw; (try dsimp only at hSw); go_simp; try (with_reducible rfl))
          try simp only [Act.put, List.setIfInBounds_toArray, List.set_cons_zero, List.set_cons_succ]
          refine wpAnyT_takeD (i := 3) (v := ?_) rfl (by kernel_rfl) (by kernel_rfl) (by kernel_rfl) (by kernel_rfl) (fun _ _ _ h => h) (Or.inl ⟨by kernel_rfl, ?_⟩) hS ?_
          rotate_left 1
          · (intro w' hSw; (try dsimp only at hSw); go_simp; try (with_reducible rfl))
          try simp only [Act.put, List.setIfInBounds_toArray, List.set_cons_zero, List.set_cons_succ]
          refine wpAnyT_takeD (i := 4) (v := ?_) rfl (by kernel_rfl) (by kernel_rfl) (by kernel_rfl) (by kernel_rfl) (fun _ _ _ h => h) (Or.inl ⟨by kernel_rfl, ?_⟩) hS ?_
          rotate_left 1
          · (intro w' hSw; (try dsimp only at hSw); go_simp; try (with_reducible rfl))
          try simp only [Act.put, List.setIfInBounds_toArray, List.set_cons_zero, List.set_cons_succ]
          refine wpAnyT_takeD (i := 5) (v := ?_) rfl (by kernel_rfl) (by kernel_rfl) (by kernel_rfl) (by kernel_rfl) (fun _ _ _ h => h) (Or.inl ⟨by kernel_rfl, ?_⟩) hS ?_
          rotate_left 1
          · (intro w' hSw; (try dsimp only at hSw); go_simp; try (with_reducible rfl))
          try simp only [Act.put, List.setIfInBounds_toArray, List.set_cons_zero, List.set_cons_succ]
          refine wpAnyT_takeD (i := 6) (v := ?_) rfl (by kernel_rfl) (by kernel_rfl) (by kernel_rfl) (by kernel_rfl) (fun _ _ _ h => h) (Or.inl ⟨by kernel_rfl, ?_⟩) hS ?_
          rotate_left 1
          · (intro w' hSw; (try dsimp only at hSw); go_simp; try (with_reducible rfl))
          try simp only [Act.put, List.setIfInBounds_toArray, List.set_cons_zero, List.set_cons_succ]
          refine wpAnyT_takeD (i := 7) (v := ?_) rfl (by kernel_rfl) (by kernel_rfl) (by kernel_rfl) (by kernel_rfl) (fun _ _ _ h => h) (Or.inl ⟨by kernel_rfl, ?_⟩) hS ?_
          rotate_left 1
          · (intro w' hSw; (try dsimp only at hSw); go_simp; try (with_reducible rfl))
          try simp only [Act.put, List.setIfInBounds_toArray, List.set_cons_zero, List.set_cons_succ]
          refine wpAnyT_takeD (i := 8) (v := ?_) rfl (by kernel_rfl) (by kernel_rfl) (by kernel_rfl) (by kernel_rfl) (fun _ _ _ h => h) (Or.inl ⟨by kernel_rfl, ?_⟩) hS ?_
          rotate_left 1
          · (intro w' hSw; (try dsimp only at hSw); go_simp; try (with_reducible rfl))
          try simp only [Act.put, List.setIfInBounds_toArray, List.set_cons_zero, List.set_cons_succ]
          refine wpAnyT_takeD (i := 9) (v := ?_) rfl (by kernel_rfl) (by kernel_rfl) (by kernel_rfl) (by kernel_rfl) (fun _ _ _ h => h) (Or.inl ⟨by kernel_rfl, ?_⟩) hS ?_
          rotate_left 1
          · (intro w' hSw; (try dsimp only at hSw); go_simp; try (with_reducible rfl))
          try simp only [Act.put, List.setIfInBounds_toArray, List.set_cons_zero, List.set_cons_succ]
          refine wpAnyT_takeD (i := 10) (v := ?_) rfl (by kernel_rfl) (by kernel_rfl) (by kernel_rfl) (by kernel_rfl) (fun _ _ _ h => h) (Or.inl ⟨by kernel_rfl, ?_⟩) hS ?_
          rotate_left 1
          · (intro w' hSw; (try dsimp only at hSw); go_simp; try (with_reducible rfl))
          try simp only [Act.put, List.setIfInBounds_toArray, List.set_cons_zero, List.set_cons_succ]
          refine wpAnyT_endD rfl (by kernel_rfl) (by kernel_rfl) (fun K hK => ?_)
          go_simp
          refine hK.out _ _ ?_
          clear hK
          obtain ⟨W8, hW8⟩ : ∃ W8, (W6.setCell ⟨w.heap.size, 1, none⟩ (.int .u64 (m : Int))).drew = W8 := ⟨_, rfl⟩
          rw [hW8]
          have t0 := (Tch.refl (fun k => k = w.heap.size) W6).setCell (p := ⟨w.heap.size, 1, none⟩) (fun _ => rfl) (.int .u64 (m : Int))
          have t8 : Tch (fun k => k = w.heap.size) W6 W8 := by rw [← hW8]; exact ⟨t0.os, t0.tape, t0.output, t0.size, t0.block⟩
          have g8 : W8.heap[w.heap.size]? = some (.cells #[.int .u64 (x.need : Int), .int .u64 (m : Int), .slice A1 (onL x.next).length c1, .slice An (onL (x.now.set j true)).length cn] 47 (0, 0)) := by
            rw [← hW8]
            show (W6.setCell ⟨w.heap.size, 1, none⟩ (.int .u64 (m : Int))).heap[w.heap.size]? = _
            rw [heap_setCell_same _ _ 1 _ _ _ HG6.out]; rfl
          have hb68 : Below w.heap.size w W8 := HB6.out.trans (t8.below HB6.out.size (fun k hk e => by omega))
          have s7 := spares_one HG6.out (t := 3) (by decide)
          have hRR : RR W8 ({ x.made j t with ban := m }) A1 c1 An cn A' (c - 1) := ⟨HN1.out.keep t8 s7, HNW.out.keep t8 s7, (HTD.out.below hb68 (Nat.le_refl _)).up hb68.size⟩
          have HRR := Lib.hid hRR
          have HB8 := Lib.hid hb68
          have HW8 := Lib.hid hW8
          obtain ⟨q0, q1, q2, q3⟩ := cell4 g8
          clear hW8 t0 t8 g8 s7 hRR hb68 k0 k1 k2 k3 l0 l1 l2 l3 hor hwp hpw hp8 hop7 kf hop6
          by_cases hz : x.need &&& m = 0
          · have HSPL : Hid (splitW f j (x.made j t) = [{ x.made j t with ban := m }]) := Lib.hid (by rw [HSP0.out]; unfold finW; exact if_pos hz)
            have HIH2 := Lib.hid (IH.out ({ x.made j t with ban := m }) (x.need : Int) (m : Int) A1 (onL x.next).length c1 An (onL (x.now.set j true)).length cn A' t.length (c - 1) W8 (HF.out.below HB8.out hB) (HS.out.below HB8.out hB) (Nat.le_trans hB HB8.out.size) HRR.out (HKID.out _ (by rw [HSPL.out]; simp)) rfl rfl rfl rfl rfl)
            rw [hz] at hand
            clear hz
            go_wp2_with fail
            refine Calls.mono HIH2.out ?_
            obtain ⟨T1, hT1⟩ : ∃ T, (leaves f n ({ x.made j t with ban := m })).map Way.cov = T := ⟨_, rfl⟩
            rw [hT1]
            have HTT1 := Lib.hid hT1
            clear hT1
            rintro e w9 ⟨u9, xs9, rfl, ho9, hcv9, hb9⟩
            have H9 : Hid (WaysPost W8 T1 (.returned u9) w9) := Lib.hid ⟨u9, xs9, rfl, ho9, hcv9, hb9⟩
            clear ho9 hcv9 hb9
            go_wp2_with fail
            go_ret
            rw [HLV.out, HSPL.out]
            show WaysPost w (List.map Way.cov (leaves f n ({ x.made j t with ban := m }) ++ [])) _ _
            rw [List.append_nil, HTT1.out]
            exact ways_base HB8.out H9.out
          · have HSPL : Hid (splitW f j (x.made j t) = []) := Lib.hid (by rw [HSP0.out]; unfold finW; exact if_neg hz)
            obtain ⟨zz, hzz⟩ : ∃ zz, x.need &&& m = zz := ⟨_, rfl⟩
            rw [hzz] at hand hz
            have hne : (((zz : Nat) : Int) != 0) = true := by simpa using hz
            clear hz
            go_wp2_with fail
            go_ret
            rw [HLV.out, HSPL.out]
            exact ways_none HB8.out
        · have HE := Lib.hid e
          have HSPL : Hid (splitW f j (x.made j t) = [(x.made j t).with_ [leftOf f j, rightOf f j]]) := Lib.hid (by unfold splitW; rw [e]; rfl)
          obtain ⟨hkd, hL, hRt⟩ := HOP.out.kid2 (by rw [e]; decide)
          generalize leftOf f j = L at *
          generalize rightOf f j = R at *
          rw [hkd]
          rw [e] at hop6
          obtain ⟨wd1, hwd1⟩ : ∃ wd, W6.drew = wd := ⟨_, rfl⟩
          have hbc1 : Below W6.heap.size W6 wd1 := by rw [← hwd1]; exact (Below.refl _ _).drew
          have hbd1 : Below W6.heap.size W6 wd1 := hbc1
          have HWD1 := Lib.hid hwd1
          clear hwd1
          go_wp2_with fail
          refine wp_region_held_drew (S := fun w' => w'.cell? ⟨w.heap.size, 0, none⟩ = some (.int .u64 (x.need : Int)) ∧ w'.cell? ⟨w.heap.size, 1, none⟩ = some (.int .u64 (x.ban : Int)) ∧ w'.cell? ⟨w.heap.size, 2, none⟩ = some (.slice A1 (onL x.next).length c1) ∧ w'.cell? ⟨w.heap.size, 3, none⟩ = some (.slice An (onL (x.now.set j true)).length cn)) (by kernel_rfl) ⟨k0, k1, k2, k3⟩ (fun hS => ?_)
          refine wpAnyH_takeD (i := 0) (v := ?_) rfl (by kernel_rfl) (by kernel_rfl) (by kernel_rfl) (fun _ _ _ h => h) (Or.inl ⟨by kernel_rfl, ?_⟩) hS ?_
          rotate_left 1
          · (intro w' hSw; (try dsimp only at hSw); go_simp; try (with_reducible rfl))
          try simp only [Act.put, List.setIfInBounds_toArray, List.set_cons_zero, List.set_cons_succ]
          refine wpAnyH_takeD (i := 1) (v := ?_) rfl (by kernel_rfl) (by kernel_rfl) (by kernel_rfl) (fun _ _ _ h => h) (Or.inl ⟨by kernel_rfl, ?_⟩) hS ?_
          rotate_left 1
          · (intro w' hSw; (try dsimp only at hSw); go_simp; try (with_reducible rfl))
          try simp only [Act.put, List.setIfInBounds_toArray, List.set_cons_zero, List.set_cons_succ]
          refine wpAnyH_takeD (i := 2) (v := ?_) rfl (by kernel_rfl) (by kernel_rfl) (by kernel_rfl) (fun _ _ _ h => h) (Or.inl ⟨by kernel_rfl, ?_⟩) hS ?_
          rotate_left 1
          · (intro w' hSw; (try dsimp only at hSw); go_simp; try (with_reducible rfl))
          try simp only [Act.put, List.setIfInBounds_toArray, List.set_cons_zero, List.set_cons_succ]
          refine wpAnyH_takeD (i := 3) (v := ?_) rfl (by kernel_rfl) (by kernel_rfl) (by kernel_rfl) (fun _ _ _ h => h) (Or.inl ⟨by kernel_rfl, ?_⟩) hS ?_
          rotate_left 1
          · (intro w' hSw; (try dsimp only at hSw); go_simp; try (with_reducible rfl))
          try simp only [Act.put, List.setIfInBounds_toArray, List.set_cons_zero, List.set_cons_succ]
          refine wpAnyH_takeD (i := 4) (v := ?_) rfl (by kernel_rfl) (by kernel_rfl) (by kernel_rfl) (fun _ _ _ h => h) (Or.inl ⟨by kernel_rfl, ?_⟩) hS ?_
          rotate_left 1
          · (intro w' hSw; (try dsimp only at hSw); go_simp; try (with_reducible rfl))
          try simp only [Act.put, List.setIfInBounds_toArray, List.set_cons_zero, List.set_cons_succ]
          refine wpAnyH_takeD (i := 5) (v := ?_) rfl (by kernel_rfl) (by kernel_rfl) (by kernel_rfl) (fun _ _ _ h => h) (Or.inl ⟨by kernel_rfl, ?_⟩) hS ?_
          rotate_left 1
          · (intro w' hSw; (try dsimp only at hSw); go_simp; try (with_reducible rfl))
          try simp only [Act.put, List.setIfInBounds_toArray, List.set_cons_zero, List.set_cons_succ]
          refine wpAnyH_oneD (i := 6) rfl (by kernel_rfl) (fun K hK => ?_)
          go_simp
          rw [HWD1.out]
          refine Calls.mono (HAH2.out L R wd1 hbd1) ?_
          rintro e w1a ⟨v1, rfl, ho1, hb1⟩
          obtain ⟨At1, ct1, rfl, hT1⟩ := TSl.of_own ho1
          have hc1 := hbd1.trans (hb1.mono hbd1.size)
          have hf1 := hbc1.trans (hb1.mono hbc1.size)
          clear ho1 hb1
          have hRR1 : RR w1a ((x.made j t).with_ [L, R]) A1 c1 An cn At1 ct1 := ⟨HT6.out HN1.out hc1, HT6.out HNW.out hc1, hT1.sl⟩
          obtain ⟨m1, hm1⟩ : ∃ m, (L :: R :: t).length = m := ⟨_, rfl⟩
          rw [hm1]
          have HM1 : Hid (m1 = ((x.made j t).with_ [L, R]).todo.length) := Lib.hid hm1.symm
          have HRR1 := Lib.hid hRR1
          clear hm1 hRR1 hT1
          dsimp only
          refine hK.out _ _ ⟨(hc1.cell (p := ⟨w.heap.size, 0, none⟩) HZ6.out.1).trans k0, (hc1.cell (p := ⟨w.heap.size, 1, none⟩) HZ6.out.1).trans k1, (hc1.cell (p := ⟨w.heap.size, 2, none⟩) HZ6.out.1).trans k2, (hc1.cell (p := ⟨w.heap.size, 3, none⟩) HZ6.out.1).trans k3⟩ (fun hS => ?_)
          clear hK
          try simp only [Act.put, List.setIfInBounds_toArray, List.set_cons_zero, List.set_cons_succ]
          refine wpAnyH_oneD (i := 7) rfl (by kernel_rfl) (fun K hK => ?_)
          go_simp
          refine Calls.mono (HIH.out ((x.made j t).with_ [L, R]) (by rw [HSPL.out]; simp) (x.need : Int) (x.ban : Int) A1 (onL x.next).length c1 An (onL (x.now.set j true)).length cn At1 m1 ct1 w1a hc1 HRR1.out rfl rfl rfl rfl HM1.out) ?_
          obtain ⟨T1, hT1⟩ : ∃ T, (leaves f n ((x.made j t).with_ [L, R])).map Way.cov = T := ⟨_, rfl⟩
          rw [hT1]
          have HTT1 := Lib.hid hT1
          clear hT1
          rintro e w1b ⟨u1, xs1, rfl, ho1, hcv1, hb1⟩
          have hd1 := hc1.trans (hb1.mono hc1.size)
          have hg1 := hf1.trans (hb1.mono hf1.size)
          have H1 : Hid (WaysPost w1a T1 (.returned u1) w1b) := Lib.hid ⟨u1, xs1, rfl, ho1, hcv1, hb1⟩
          clear ho1 hcv1 hb1
          dsimp only
          refine hK.out _ _ ⟨(hd1.cell (p := ⟨w.heap.size, 0, none⟩) HZ6.out.1).trans k0, (hd1.cell (p := ⟨w.heap.size, 1, none⟩) HZ6.out.1).trans k1, (hd1.cell (p := ⟨w.heap.size, 2, none⟩) HZ6.out.1).trans k2, (hd1.cell (p := ⟨w.heap.size, 3, none⟩) HZ6.out.1).trans k3⟩ (fun hS => ?_)
          clear hK
          try simp only [Act.put, List.setIfInBounds_toArray, List.set_cons_zero, List.set_cons_succ]
          refine wpAnyH_takeD (i := 8) (v := ?_) rfl (by kernel_rfl) (by kernel_rfl) (by kernel_rfl) (fun _ _ _ h => h) (Or.inl ⟨by kernel_rfl, ?_⟩) hS ?_
          rotate_left 1
          · (intro w' hSw; (try dsimp only at hSw); go_simp; try (with_reducible rfl))
          try simp only [Act.put, List.setIfInBounds_toArray, List.set_cons_zero, List.set_cons_succ]
          refine wpAnyH_done (by kernel_rfl) ?_ _
          go_wp2_with fail
          go_ret
          rw [HLV.out, HSPL.out]
          show WaysPost w (List.map Way.cov (leaves f n ((x.made j t).with_ [L, R]) ++ [])) _ _
          rw [List.append_nil, HTT1.out]
          exact ways_base (HB6.out.trans (hc1.mono HB6.out.size)) H1.out
        · have HE := Lib.hid e
          have HSPL : Hid (splitW f j (x.made j t) = [(x.made j t).with_ [leftOf f j], (x.made j t).with_ [rightOf f j]]) := Lib.hid (by unfold splitW; rw [e]; rfl)
          obtain ⟨hkd, hL, hRt⟩ := HOP.out.kid2 (by rw [e]; decide)
          generalize leftOf f j = L at *
          generalize rightOf f j = R at *
          rw [hkd]
          rw [e] at hop6
          obtain ⟨wd1, hwd1⟩ : ∃ wd, W6.drew = wd := ⟨_, rfl⟩
          have hbc1 : Below W6.heap.size W6 wd1 := by rw [← hwd1]; exact (Below.refl _ _).drew
          have hbd1 : Below W6.heap.size W6 wd1 := hbc1
          have HWD1 := Lib.hid hwd1
          clear hwd1
          go_wp2_with fail
          refine wp_region_held_drew (S := fun w' => w'.cell? ⟨w.heap.size, 0, none⟩ = some (.int .u64 (x.need : Int)) ∧ w'.cell? ⟨w.heap.size, 1, none⟩ = some (.int .u64 (x.ban : Int)) ∧ w'.cell? ⟨w.heap.size, 2, none⟩ = some (.slice A1 (onL x.next).length c1) ∧ w'.cell? ⟨w.heap.size, 3, none⟩ = some (.slice An (onL (x.now.set j true)).length cn)) (by kernel_rfl) ⟨k0, k1, k2, k3⟩ (fun hS => ?_)
          refine wpAnyH_takeD (i := 0) (v := ?_) rfl (by kernel_rfl) (by kernel_rfl) (by kernel_rfl) (fun _ _ _ h => h) (Or.inl ⟨by kernel_rfl, ?_⟩) hS ?_
          rotate_left 1
          · (intro w' hSw; (try dsimp only at hSw); go_simp; try (with_reducible rfl))
          try simp only [Act.put, List.setIfInBounds_toArray, List.set_cons_zero, List.set_cons_succ]
          refine wpAnyH_takeD (i := 1) (v := ?_) rfl (by kernel_rfl) (by kernel_rfl) (by kernel_rfl) (fun _ _ _ h => h) (Or.inl ⟨by kernel_rfl, ?_⟩) hS ?_
          rotate_left 1
          · (intro w' hSw; (try dsimp only at hSw); go_simp; try (with_reducible rfl))
          try simp only [Act.put, List.setIfInBounds_toArray, List.set_cons_zero, List.set_cons_succ]
          refine wpAnyH_takeD (i := 2) (v := ?_) rfl (by kernel_rfl) (by kernel_rfl) (by kernel_rfl) (fun _ _ _ h => h) (Or.inl ⟨by kernel_rfl, ?_⟩) hS ?_
          rotate_left 1
          · (intro w' hSw; (try dsimp only at hSw); go_simp; try (with_reducible rfl))
          try simp only [Act.put, List.setIfInBounds_toArray, List.set_cons_zero, List.set_cons_succ]
          refine wpAnyH_takeD (i := 3) (v := ?_) rfl (by kernel_rfl) (by kernel_rfl) (by kernel_rfl) (fun _ _ _ h => h) (Or.inl ⟨by kernel_rfl, ?_⟩) hS ?_
          rotate_left 1
          · (intro w' hSw; (try dsimp only at hSw); go_simp; try (with_reducible rfl))
          try simp only [Act.put, List.setIfInBounds_toArray, List.set_cons_zero, List.set_cons_succ]
          refine wpAnyH_takeD (i := 4) (v := ?_) rfl (by kernel_rfl) (by kernel_rfl) (by kernel_rfl) (fun _ _ _ h => h) (Or.inl ⟨by kernel_rfl, ?_⟩) hS ?_
          rotate_left 1
          · (intro w' hSw; (try dsimp only at hSw); go_simp; try (with_reducible rfl))
          try simp only [Act.put, List.setIfInBounds_toArray, List.set_cons_zero, List.set_cons_succ]
          refine wpAnyH_oneD (i := 5) rfl (by kernel_rfl) (fun K hK => ?_)
          go_simp
          rw [HWD1.out]
          refine Calls.mono (HAH1.out L wd1 hbd1) ?_
          rintro e w1a ⟨v1, rfl, ho1, hb1⟩
          obtain ⟨At1, ct1, rfl, hT1⟩ := TSl.of_own ho1
          have hc1 := hbd1.trans (hb1.mono hbd1.size)
          have hf1 := hbc1.trans (hb1.mono hbc1.size)
          clear ho1 hb1
          have hRR1 : RR w1a ((x.made j t).with_ [L]) A1 c1 An cn At1 ct1 := ⟨HT6.out HN1.out hc1, HT6.out HNW.out hc1, hT1.sl⟩
          obtain ⟨m1, hm1⟩ : ∃ m, (L :: t).length = m := ⟨_, rfl⟩
          rw [hm1]
          have HM1 : Hid (m1 = ((x.made j t).with_ [L]).todo.length) := Lib.hid hm1.symm
          have HRR1 := Lib.hid hRR1
          clear hm1 hRR1 hT1
          dsimp only
          refine hK.out _ _ ⟨(hc1.cell (p := ⟨w.heap.size, 0, none⟩) HZ6.out.1).trans k0, (hc1.cell (p := ⟨w.heap.size, 1, none⟩) HZ6.out.1).trans k1, (hc1.cell (p := ⟨w.heap.size, 2, none⟩) HZ6.out.1).trans k2, (hc1.cell (p := ⟨w.heap.size, 3, none⟩) HZ6.out.1).trans k3⟩ (fun hS => ?_)
          clear hK
          try simp only [Act.put, List.setIfInBounds_toArray, List.set_cons_zero, List.set_cons_succ]
          refine wpAnyH_oneD (i := 6) rfl (by kernel_rfl) (fun K hK => ?_)
          go_simp
          refine Calls.mono (HIH.out ((x.made j t).with_ [L]) (by rw [HSPL.out]; simp) (x.need : Int) (x.ban : Int) A1 (onL x.next).length c1 An (onL (x.now.set j true)).length cn At1 m1 ct1 w1a hc1 HRR1.out rfl rfl rfl rfl HM1.out) ?_
          obtain ⟨T1, hT1⟩ : ∃ T, (leaves f n ((x.made j t).with_ [L])).map Way.cov = T := ⟨_, rfl⟩
          rw [hT1]
          have HTT1 := Lib.hid hT1
          clear hT1
          rintro e w1b ⟨u1, xs1, rfl, ho1, hcv1, hb1⟩
          have hd1 := hc1.trans (hb1.mono hc1.size)
          have hg1 := hf1.trans (hb1.mono hf1.size)
          have H1 : Hid (WaysPost w1a T1 (.returned u1) w1b) := Lib.hid ⟨u1, xs1, rfl, ho1, hcv1, hb1⟩
          clear ho1 hcv1 hb1
          dsimp only
          refine hK.out _ _ ⟨(hd1.cell (p := ⟨w.heap.size, 0, none⟩) HZ6.out.1).trans k0, (hd1.cell (p := ⟨w.heap.size, 1, none⟩) HZ6.out.1).trans k1, (hd1.cell (p := ⟨w.heap.size, 2, none⟩) HZ6.out.1).trans k2, (hd1.cell (p := ⟨w.heap.size, 3, none⟩) HZ6.out.1).trans k3⟩ (fun hS => ?_)
          clear hK
          try simp only [Act.put, List.setIfInBounds_toArray, List.set_cons_zero, List.set_cons_succ]
          refine wpAnyH_takeD (i := 7) (v := ?_) rfl (by kernel_rfl) (by kernel_rfl) (by kernel_rfl) (fun _ _ _ h => h) (Or.inl ⟨by kernel_rfl, ?_⟩) hS ?_
          rotate_left 1
          · (intro w' hSw; (try dsimp only at hSw); go_simp; try (with_reducible rfl))
          try simp only [Act.put, List.setIfInBounds_toArray, List.set_cons_zero, List.set_cons_succ]
          refine wpAnyH_done (by kernel_rfl) ?_ _
          obtain ⟨wd2, hwd2⟩ : ∃ wd, w1b.drew = wd := ⟨_, rfl⟩
          have hbc2 : Below w1b.heap.size w1b wd2 := by rw [← hwd2]; exact (Below.refl _ _).drew
          have hbd2 : Below W6.heap.size W6 wd2 := hd1.trans (hbc2.mono hd1.size)
          have HWD2 := Lib.hid hwd2
          clear hwd2
          go_wp2_with fail
          refine wp_region_held_drew (S := fun w' => w'.cell? ⟨w.heap.size, 0, none⟩ = some (.int .u64 (x.need : Int)) ∧ w'.cell? ⟨w.heap.size, 1, none⟩ = some (.int .u64 (x.ban : Int)) ∧ w'.cell? ⟨w.heap.size, 2, none⟩ = some (.slice A1 (onL x.next).length c1) ∧ w'.cell? ⟨w.heap.size, 3, none⟩ = some (.slice An (onL (x.now.set j true)).length cn)) (by kernel_rfl) ⟨(hd1.cell (p := ⟨w.heap.size, 0, none⟩) HZ6.out.1).trans k0, (hd1.cell (p := ⟨w.heap.size, 1, none⟩) HZ6.out.1).trans k1, (hd1.cell (p := ⟨w.heap.size, 2, none⟩) HZ6.out.1).trans k2, (hd1.cell (p := ⟨w.heap.size, 3, none⟩) HZ6.out.1).trans k3⟩ (fun hS => ?_)
          refine wpAnyH_takeD (i := 0) (v := ?_) rfl (by kernel_rfl) (by kernel_rfl) (by kernel_rfl) (fun _ _ _ h => h) (Or.inl ⟨by kernel_rfl, ?_⟩) hS ?_
          rotate_left 1
          · (intro w' hSw; (try dsimp only at hSw); go_simp; try (with_reducible rfl))
          try simp only [Act.put, List.setIfInBounds_toArray, List.set_cons_zero, List.set_cons_succ]
          refine wpAnyH_takeD (i := 1) (v := ?_) rfl (by kernel_rfl) (by kernel_rfl) (by kernel_rfl) (fun _ _ _ h => h) (Or.inl ⟨by kernel_rfl, ?_⟩) hS ?_
          rotate_left 1
          · (intro w' hSw; (try dsimp only at hSw); go_simp; try (with_reducible rfl))
          try simp only [Act.put, List.setIfInBounds_toArray, List.set_cons_zero, List.set_cons_succ]
          refine wpAnyH_takeD (i := 2) (v := ?_) rfl (by kernel_rfl) (by kernel_rfl) (by kernel_rfl) (fun _ _ _ h => h) (Or.inl ⟨by kernel_rfl, ?_⟩) hS ?_
          rotate_left 1
          · (intro w' hSw; (try dsimp only at hSw); go_simp; try (with_reducible rfl))
          try simp only [Act.put, List.setIfInBounds_toArray, List.set_cons_zero, List.set_cons_succ]
          refine wpAnyH_takeD (i := 3) (v := ?_) rfl (by kernel_rfl) (by kernel_rfl) (by kernel_rfl) (fun _ _ _ h => h) (Or.inl ⟨by kernel_rfl, ?_⟩) hS ?_
          rotate_left 1
          · (intro w' hSw; (try dsimp only at hSw); go_simp; try (with_reducible rfl))
          try simp only [Act.put, List.setIfInBounds_toArray, List.set_cons_zero, List.set_cons_succ]
          refine wpAnyH_takeD (i := 4) (v := ?_) rfl (by kernel_rfl) (by kernel_rfl) (by kernel_rfl) (fun _ _ _ h => h) (Or.inl ⟨by kernel_rfl, ?_⟩) hS ?_
          rotate_left 1
          · (intro w' hSw; (try dsimp only at hSw); go_simp; try (with_reducible rfl))
          try simp only [Act.put, List.setIfInBounds_toArray, List.set_cons_zero, List.set_cons_succ]
          refine wpAnyH_oneD (i := 5) rfl (by kernel_rfl) (fun K hK => ?_)
          go_simp
          rw [HWD2.out]
          refine Calls.mono (HAH1.out R wd2 hbd2) ?_
          rintro e w2a ⟨v2, rfl, ho2, hb2⟩
          obtain ⟨At2, ct2, rfl, hT2⟩ := TSl.of_own ho2
          have hc2 := hbd2.trans (hb2.mono hbd2.size)
          have hf2 := hbc2.trans (hb2.mono hbc2.size)
          clear ho2 hb2
          have hRR2 : RR w2a ((x.made j t).with_ [R]) A1 c1 An cn At2 ct2 := ⟨HT6.out HN1.out hc2, HT6.out HNW.out hc2, hT2.sl⟩
          obtain ⟨m2, hm2⟩ : ∃ m, (R :: t).length = m := ⟨_, rfl⟩
          rw [hm2]
          have HM2 : Hid (m2 = ((x.made j t).with_ [R]).todo.length) := Lib.hid hm2.symm
          have HRR2 := Lib.hid hRR2
          clear hm2 hRR2 hT2
          dsimp only
          refine hK.out _ _ ⟨(hc2.cell (p := ⟨w.heap.size, 0, none⟩) HZ6.out.1).trans k0, (hc2.cell (p := ⟨w.heap.size, 1, none⟩) HZ6.out.1).trans k1, (hc2.cell (p := ⟨w.heap.size, 2, none⟩) HZ6.out.1).trans k2, (hc2.cell (p := ⟨w.heap.size, 3, none⟩) HZ6.out.1).trans k3⟩ (fun hS => ?_)
          clear hK
          try simp only [Act.put, List.setIfInBounds_toArray, List.set_cons_zero, List.set_cons_succ]
          refine wpAnyH_oneD (i := 6) rfl (by kernel_rfl) (fun K hK => ?_)
          go_simp
          refine Calls.mono (HIH.out ((x.made j t).with_ [R]) (by rw [HSPL.out]; simp) (x.need : Int) (x.ban : Int) A1 (onL x.next).length c1 An (onL (x.now.set j true)).length cn At2 m2 ct2 w2a hc2 HRR2.out rfl rfl rfl rfl HM2.out) ?_
          obtain ⟨T2, hT2⟩ : ∃ T, (leaves f n ((x.made j t).with_ [R])).map Way.cov = T := ⟨_, rfl⟩
          rw [hT2]
          have HTT2 := Lib.hid hT2
          clear hT2
          rintro e w2b ⟨u2, xs2, rfl, ho2, hcv2, hb2⟩
          have hd2 := hc2.trans (hb2.mono hc2.size)
          have hg2 := hf2.trans (hb2.mono hf2.size)
          have H2 : Hid (WaysPost w2a T2 (.returned u2) w2b) := Lib.hid ⟨u2, xs2, rfl, ho2, hcv2, hb2⟩
          clear ho2 hcv2 hb2
          dsimp only
          refine hK.out _ _ ⟨(hd2.cell (p := ⟨w.heap.size, 0, none⟩) HZ6.out.1).trans k0, (hd2.cell (p := ⟨w.heap.size, 1, none⟩) HZ6.out.1).trans k1, (hd2.cell (p := ⟨w.heap.size, 2, none⟩) HZ6.out.1).trans k2, (hd2.cell (p := ⟨w.heap.size, 3, none⟩) HZ6.out.1).trans k3⟩ (fun hS => ?_)
          clear hK
          try simp only [Act.put, List.setIfInBounds_toArray, List.set_cons_zero, List.set_cons_succ]
          refine wpAnyH_takeD (i := 7) (v := ?_) rfl (by kernel_rfl) (by kernel_rfl) (by kernel_rfl) (fun _ _ _ h => h) (Or.inl ⟨by kernel_rfl, ?_⟩) hS ?_
          rotate_left 1
          · (intro w' hSw; (try dsimp only at hSw); go_simp; try (with_reducible rfl))
          try simp only [Act.put, List.setIfInBounds_toArray, List.set_cons_zero, List.set_cons_succ]
          refine wpAnyH_done (by kernel_rfl) ?_ _
          obtain ⟨u1', xs1, e1', ho1, hcv1, hb1⟩ := H1.out
          cases e1'
          obtain ⟨u2', xs2, e2', ho2, hcv2, hb2⟩ := H2.out
          cases e2'
          obtain ⟨Au, cu, hu2, hsu⟩ := own_sl ho2
          subst hu2
          have hlT : T1.length + T2.length ≤ 1000000 := by
            have hal := HC.out.all
            rw [HLV.out, HSPL.out] at hal
            change (leaves f n ((x.made j t).with_ [L]) ++ (leaves f n ((x.made j t).with_ [R]) ++ [])).length ≤ _ at hal
            rw [List.append_nil, List.length_append] at hal
            rw [← HTT1.out, ← HTT2.out, List.length_map, List.length_map]; exact hal
          have ho1' := own_base (own_below ho1 hg2) (show w.heap.size ≤ w1a.heap.size from Nat.le_trans (Nat.le_trans HB6.out.size hc1.size) (Nat.le_refl _))
          have hcv1' := hcv1.keep (Tch.of_below hg2) (spares_new _ _)
          have hw2 := HB6.out.trans (hd2.mono HB6.out.size)
          have h1x := hcv2.one' ho2.1
          have HO1 := Lib.hid ho1'
          have HSU := Lib.hid hsu
          have hwz := hw2.size
          clear ho1 hcv1 hb1 ho2 hb2 k0 k1 k2 k3 l0 l1 l2 l3
          clear hsu ho1' hS
          go_wp2_with (at_builtin
                       refine wpList_extend rfl (.tmp 119) (.tmp 120) 42 rfl w.heap.size 47 4 64 sliceCovR _ _ _ HO1.out rfl w2b.heap.size Au T2.length cu xs2 rfl HSU.out h1x (by omega) (by omega) hwz ?_
                       intro v9 w9 hown9 ht9 hat9 hne9)
          go_ret
          rw [HLV.out, HSPL.out]
          show WaysPost w (List.map Way.cov (leaves f n ((x.made j t).with_ [L]) ++ (leaves f n ((x.made j t).with_ [R]) ++ []))) _ _
          rw [List.append_nil, List.map_append, HTT1.out, HTT2.out]
          exact ways_join hw2 HO1.out hcv1' hcv2 hown9 rfl rfl ht9
        · have HE := Lib.hid e
          have HSPL : Hid (splitW f j (x.made j t) = [(x.made j t).owing (leftOf f j)]) := Lib.hid (by unfold splitW; rw [e]; rfl)
          obtain ⟨hkd, hL⟩ := HOP.out.kid1 e
          generalize leftOf f j = L at *
          rw [hkd]
          rw [e] at hop6
          have hand := and_u64' (x := x.need) (y := x.ban) (by have := HC.out.need; omega) (by have := HC.out.ban; omega)
          rw [HC.out.and0] at hand
          have HP := Lib.hid (putR_any A1 (onL x.next).length c1 (onL x.next) L W6 w.heap.size rfl (HR.out.next.sl.below HB6.out (Nat.le_refl _)) HB6.out.size (by omega))
          rw [putF_on (l := x.next) (i := L) (by rw [HC.out.ok.next]; omega)] at HP
          go_wp2_with fail
          refine Calls.mono HP.out ?_
          rintro e w7 ⟨v7, rfl, ho7, hb7⟩
          obtain ⟨Ap, cp, rfl, hT7⟩ := TSl.of_own ho7
          have g7 := (hb7.block w.heap.size HZ6.out.1).trans HG6.out
          have m7 := (cell4 g7).2.2.1
          have fr7 := frozen_of_row _ _ 2 _ _ g7
          obtain ⟨W8, hW8⟩ : ∃ W8, w7.setCell ⟨w.heap.size, 2, none⟩ (.slice Ap (onL (x.next.set L true)).length cp) = W8 := ⟨_, rfl⟩
          have t8 : Tch (fun k => k = w.heap.size) w7 W8 := by rw [← hW8]; exact (Tch.refl (fun k => k = w.heap.size) w7).setCell (p := ⟨w.heap.size, 2, none⟩) (fun _ => rfl) _
          have g8 : W8.heap[w.heap.size]? = some (.cells #[.int .u64 (x.need : Int), .int .u64 (x.ban : Int), .slice Ap (onL (x.next.set L true)).length cp, .slice An (onL (x.now.set j true)).length cn] 47 (0, 0)) := by rw [← hW8, heap_setCell_same _ _ 2 _ _ _ g7]; rfl
          have hb67 : Below W6.heap.size W6 w7 := hb7
          have hb68 : Below w.heap.size w W8 := HB6.out.trans ((hb67.mono HB6.out.size).trans (t8.below (Nat.le_trans HB6.out.size hb67.size) (fun k hk e => by omega)))
          have s7 := spares_one g7 (t := 3) (by decide)
          have hRR : RR W8 ((x.made j t).owing L) Ap cp An cn A' (c - 1) := ⟨hT7.keep t8 s7, (HT6.out HNW.out hb67).keep t8 s7, (HTD.out.below hb68 (Nat.le_refl _)).up hb68.size⟩
          have HRR := Lib.hid hRR
          have HB8 := Lib.hid hb68
          have hn7 : (onL (x.next.set L true)).length ≤ 1000 := Nat.le_trans (onL_len _) (by rw [List.length_set, HC.out.ok.next]; exact hl)
          have hk7 := hT7.sl.cap
          have HIH2 := Lib.hid (IH.out ((x.made j t).owing L) (x.need : Int) (x.ban : Int) Ap (onL (x.next.set L true)).length cp An (onL (x.now.set j true)).length cn A' t.length (c - 1) W8 (HF.out.below hb68 hB) (HS.out.below hb68 hB) (Nat.le_trans hB hb68.size) hRR (HKID.out _ (by rw [HSPL.out]; simp)) rfl rfl rfl rfl rfl)
          obtain ⟨q0, q1, q2, q3⟩ := cell4 g8
          clear hT7 ho7 g7 t8 s7 hRR hb68 hb67 hb7 HP g8 k0 k1 k2 k3 l0 l1 l2 l3
          go_wp2_with fail
          refine Calls.mono HIH2.out ?_
          obtain ⟨T1, hT1⟩ : ∃ T, (leaves f n ((x.made j t).owing L)).map Way.cov = T := ⟨_, rfl⟩
          rw [hT1]
          have HTT1 := Lib.hid hT1
          clear hT1
          rintro e w9 ⟨u9, xs9, rfl, ho9, hcv9, hb9⟩
          have H9 : Hid (WaysPost W8 T1 (.returned u9) w9) := Lib.hid ⟨u9, xs9, rfl, ho9, hcv9, hb9⟩
          clear ho9 hcv9 hb9
          go_wp2_with fail
          go_ret
          rw [HLV.out, HSPL.out]
          show WaysPost w (List.map Way.cov (leaves f n ((x.made j t).owing L) ++ [])) _ _
          rw [List.append_nil, HTT1.out]
          exact ways_base HB8.out H9.out
        · have HE := Lib.hid e
          have HSPL : Hid (splitW f j (x.made j t) = [(x.made j t).with_ [rightOf f j], ((x.made j t).with_ [leftOf f j]).owing j]) := Lib.hid (by unfold splitW; rw [e]; rfl)
          obtain ⟨hkd, hL, hRt⟩ := HOP.out.kid2 (by rw [e]; decide)
          generalize leftOf f j = L at *
          generalize rightOf f j = R at *
          rw [hkd]
          rw [e] at hop6
          obtain ⟨wd1, hwd1⟩ : ∃ wd, W6.drew = wd := ⟨_, rfl⟩
          have hbc1 : Below W6.heap.size W6 wd1 := by rw [← hwd1]; exact (Below.refl _ _).drew
          have hbd1 : Below W6.heap.size W6 wd1 := hbc1
          have HWD1 := Lib.hid hwd1
          clear hwd1
          go_wp2_with fail
          refine wp_region_held_drew (S := fun w' => w'.cell? ⟨w.heap.size, 0, none⟩ = some (.int .u64 (x.need : Int)) ∧ w'.cell? ⟨w.heap.size, 1, none⟩ = some (.int .u64 (x.ban : Int)) ∧ w'.cell? ⟨w.heap.size, 2, none⟩ = some (.slice A1 (onL x.next).length c1) ∧ w'.cell? ⟨w.heap.size, 3, none⟩ = some (.slice An (onL (x.now.set j true)).length cn)) (by kernel_rfl) ⟨k0, k1, k2, k3⟩ (fun hS => ?_)
          refine wpAnyH_takeD (i := 0) (v := ?_) rfl (by kernel_rfl) (by kernel_rfl) (by kernel_rfl) (fun _ _ _ h => h) (Or.inl ⟨by kernel_rfl, ?_⟩) hS ?_
          rotate_left 1
          · (intro w' hSw; (try dsimp only at hSw); go_simp; try (with_reducible rfl))
          try simp only [Act.put, List.setIfInBounds_toArray, List.set_cons_zero, List.set_cons_succ]
          refine wpAnyH_takeD (i := 1) (v := ?_) rfl (by kernel_rfl) (by kernel_rfl) (by kernel_rfl) (fun _ _ _ h => h) (Or.inl ⟨by kernel_rfl, ?_⟩) hS ?_
          rotate_left 1
          · (intro w' hSw; (try dsimp only at hSw); go_simp; try (with_reducible rfl))
          try simp only [Act.put, List.setIfInBounds_toArray, List.set_cons_zero, List.set_cons_succ]
          refine wpAnyH_takeD (i := 2) (v := ?_) rfl (by kernel_rfl) (by kernel_rfl) (by kernel_rfl) (fun _ _ _ h => h) (Or.inl ⟨by kernel_rfl, ?_⟩) hS ?_
          rotate_left 1
          · (intro w' hSw; (try dsimp only at hSw); go_simp; try (with_reducible rfl))
          try simp only [Act.put, List.setIfInBounds_toArray, List.set_cons_zero, List.set_cons_succ]
          refine wpAnyH_takeD (i := 3) (v := ?_) rfl (by kernel_rfl) (by kernel_rfl) (by kernel_rfl) (fun _ _ _ h => h) (Or.inl ⟨by kernel_rfl, ?_⟩) hS ?_
          rotate_left 1
          · (intro w' hSw; (try dsimp only at hSw); go_simp; try (with_reducible rfl))
          try simp only [Act.put, List.setIfInBounds_toArray, List.set_cons_zero, List.set_cons_succ]
          refine wpAnyH_takeD (i := 4) (v := ?_) rfl (by kernel_rfl) (by kernel_rfl) (by kernel_rfl) (fun _ _ _ h => h) (Or.inl ⟨by kernel_rfl, ?_⟩) hS ?_
          rotate_left 1
          · (intro w' hSw; (try dsimp only at hSw); go_simp; try (with_reducible rfl))
          try simp only [Act.put, List.setIfInBounds_toArray, List.set_cons_zero, List.set_cons_succ]
          refine wpAnyH_oneD (i := 5) rfl (by kernel_rfl) (fun K hK => ?_)
          go_simp
          rw [HWD1.out]
          refine Calls.mono (HAH1.out R wd1 hbd1) ?_
          rintro e w1a ⟨v1, rfl, ho1, hb1⟩
          obtain ⟨At1, ct1, rfl, hT1⟩ := TSl.of_own ho1
          have hc1 := hbd1.trans (hb1.mono hbd1.size)
          have hf1 := hbc1.trans (hb1.mono hbc1.size)
          clear ho1 hb1
          have hRR1 : RR w1a ((x.made j t).with_ [R]) A1 c1 An cn At1 ct1 := ⟨HT6.out HN1.out hc1, HT6.out HNW.out hc1, hT1.sl⟩
          obtain ⟨m1, hm1⟩ : ∃ m, (R :: t).length = m := ⟨_, rfl⟩
          rw [hm1]
          have HM1 : Hid (m1 = ((x.made j t).with_ [R]).todo.length) := Lib.hid hm1.symm
          have HRR1 := Lib.hid hRR1
          clear hm1 hRR1 hT1
          dsimp only
          refine hK.out _ _ ⟨(hc1.cell (p := ⟨w.heap.size, 0, none⟩) HZ6.out.1).trans k0, (hc1.cell (p := ⟨w.heap.size, 1, none⟩) HZ6.out.1).trans k1, (hc1.cell (p := ⟨w.heap.size, 2, none⟩) HZ6.out.1).trans k2, (hc1.cell (p := ⟨w.heap.size, 3, none⟩) HZ6.out.1).trans k3⟩ (fun hS => ?_)
          clear hK
          try simp only [Act.put, List.setIfInBounds_toArray, List.set_cons_zero, List.set_cons_succ]
          refine wpAnyH_oneD (i := 6) rfl (by kernel_rfl) (fun K hK => ?_)
          go_simp
          refine Calls.mono (HIH.out ((x.made j t).with_ [R]) (by rw [HSPL.out]; simp) (x.need : Int) (x.ban : Int) A1 (onL x.next).length c1 An (onL (x.now.set j true)).length cn At1 m1 ct1 w1a hc1 HRR1.out rfl rfl rfl rfl HM1.out) ?_
          obtain ⟨T1, hT1⟩ : ∃ T, (leaves f n ((x.made j t).with_ [R])).map Way.cov = T := ⟨_, rfl⟩
          rw [hT1]
          have HTT1 := Lib.hid hT1
          clear hT1
          rintro e w1b ⟨u1, xs1, rfl, ho1, hcv1, hb1⟩
          have hd1 := hc1.trans (hb1.mono hc1.size)
          have hg1 := hf1.trans (hb1.mono hf1.size)
          have H1 : Hid (WaysPost w1a T1 (.returned u1) w1b) := Lib.hid ⟨u1, xs1, rfl, ho1, hcv1, hb1⟩
          clear ho1 hcv1 hb1
          dsimp only
          refine hK.out _ _ ⟨(hd1.cell (p := ⟨w.heap.size, 0, none⟩) HZ6.out.1).trans k0, (hd1.cell (p := ⟨w.heap.size, 1, none⟩) HZ6.out.1).trans k1, (hd1.cell (p := ⟨w.heap.size, 2, none⟩) HZ6.out.1).trans k2, (hd1.cell (p := ⟨w.heap.size, 3, none⟩) HZ6.out.1).trans k3⟩ (fun hS => ?_)
          clear hK
          try simp only [Act.put, List.setIfInBounds_toArray, List.set_cons_zero, List.set_cons_succ]
          refine wpAnyH_takeD (i := 7) (v := ?_) rfl (by kernel_rfl) (by kernel_rfl) (by kernel_rfl) (fun _ _ _ h => h) (Or.inl ⟨by kernel_rfl, ?_⟩) hS ?_
          rotate_left 1
          · (intro w' hSw; (try dsimp only at hSw); go_simp; try (with_reducible rfl))
          try simp only [Act.put, List.setIfInBounds_toArray, List.set_cons_zero, List.set_cons_succ]
          refine wpAnyH_done (by kernel_rfl) ?_ _
          obtain ⟨wd2, hwd2⟩ : ∃ wd, w1b.drew = wd := ⟨_, rfl⟩
          have hbc2 : Below w1b.heap.size w1b wd2 := by rw [← hwd2]; exact (Below.refl _ _).drew
          have hbd2 : Below W6.heap.size W6 wd2 := hd1.trans (hbc2.mono hd1.size)
          have HWD2 := Lib.hid hwd2
          clear hwd2
          go_wp2_with fail
          refine wp_region_held_drew (S := fun w' => w'.cell? ⟨w4.heap.size, 0, none⟩ = some (.int .u64 (x.need : Int)) ∧ w'.cell? ⟨w4.heap.size, 1, none⟩ = some (.int .u64 (x.ban : Int)) ∧ w'.cell? ⟨w4.heap.size, 2, none⟩ = some (.slice Ax (onL (x.next.set j true)).length cx) ∧ w'.cell? ⟨w4.heap.size, 3, none⟩ = some (.slice An (onL (x.now.set j true)).length cn)) (by kernel_rfl) ⟨(hd1.cell (p := ⟨w4.heap.size, 0, none⟩) HZ6.out.2.1).trans l0, (hd1.cell (p := ⟨w4.heap.size, 1, none⟩) HZ6.out.2.1).trans l1, (hd1.cell (p := ⟨w4.heap.size, 2, none⟩) HZ6.out.2.1).trans l2, (hd1.cell (p := ⟨w4.heap.size, 3, none⟩) HZ6.out.2.1).trans l3⟩ (fun hS => ?_)
          refine wpAnyH_takeD (i := 0) (v := ?_) rfl (by kernel_rfl) (by kernel_rfl) (by kernel_rfl) (fun _ _ _ h => h) (Or.inl ⟨by kernel_rfl, ?_⟩) hS ?_
          rotate_left 1
          · (intro w' hSw; (try dsimp only at hSw); go_simp; try (with_reducible rfl))
          try simp only [Act.put, List.setIfInBounds_toArray, List.set_cons_zero, List.set_cons_succ]
          refine wpAnyH_takeD (i := 1) (v := ?_) rfl (by kernel_rfl) (by kernel_rfl) (by kernel_rfl) (fun _ _ _ h => h) (Or.inl ⟨by kernel_rfl, ?_⟩) hS ?_
          rotate_left 1
          · (intro w' hSw; (try dsimp only at hSw); go_simp; try (with_reducible rfl))
          try simp only [Act.put, List.setIfInBounds_toArray, List.set_cons_zero, List.set_cons_succ]
          refine wpAnyH_takeD (i := 2) (v := ?_) rfl (by kernel_rfl) (by kernel_rfl) (by kernel_rfl) (fun _ _ _ h => h) (Or.inl ⟨by kernel_rfl, ?_⟩) hS ?_
          rotate_left 1
          · (intro w' hSw; (try dsimp only at hSw); go_simp; try (with_reducible rfl))
          try simp only [Act.put, List.setIfInBounds_toArray, List.set_cons_zero, List.set_cons_succ]
          refine wpAnyH_takeD (i := 3) (v := ?_) rfl (by kernel_rfl) (by kernel_rfl) (by kernel_rfl) (fun _ _ _ h => h) (Or.inl ⟨by kernel_rfl, ?_⟩) hS ?_
          rotate_left 1
          · (intro w' hSw; (try dsimp only at hSw); go_simp; try (with_reducible rfl))
          try simp only [Act.put, List.setIfInBounds_toArray, List.set_cons_zero, List.set_cons_succ]
          refine wpAnyH_takeD (i := 4) (v := ?_) rfl (by kernel_rfl) (by kernel_rfl) (by kernel_rfl) (fun _ _ _ h => h) (Or.inl ⟨by kernel_rfl, ?_⟩) hS ?_
          rotate_left 1
          · (intro w' hSw; (try dsimp only at hSw); go_simp; try (with_reducible rfl))
          try simp only [Act.put, List.setIfInBounds_toArray, List.set_cons_zero, List.set_cons_succ]
          refine wpAnyH_oneD (i := 5) rfl (by kernel_rfl) (fun K hK => ?_)
          go_simp
          rw [HWD2.out]
          refine Calls.mono (HAH1.out L wd2 hbd2) ?_
          rintro e w2a ⟨v2, rfl, ho2, hb2⟩
          obtain ⟨At2, ct2, rfl, hT2⟩ := TSl.of_own ho2
          have hc2 := hbd2.trans (hb2.mono hbd2.size)
          have hf2 := hbc2.trans (hb2.mono hbc2.size)
          clear ho2 hb2
          have hRR2 : RR w2a (((x.made j t).with_ [L]).owing j) Ax cx An cn At2 ct2 := ⟨HT6.out HNX.out hc2, HT6.out HNW.out hc2, hT2.sl⟩
          obtain ⟨m2, hm2⟩ : ∃ m, (L :: t).length = m := ⟨_, rfl⟩
          rw [hm2]
          have HM2 : Hid (m2 = (((x.made j t).with_ [L]).owing j).todo.length) := Lib.hid hm2.symm
          have HRR2 := Lib.hid hRR2
          clear hm2 hRR2 hT2
          dsimp only
          refine hK.out _ _ ⟨(hc2.cell (p := ⟨w4.heap.size, 0, none⟩) HZ6.out.2.1).trans l0, (hc2.cell (p := ⟨w4.heap.size, 1, none⟩) HZ6.out.2.1).trans l1, (hc2.cell (p := ⟨w4.heap.size, 2, none⟩) HZ6.out.2.1).trans l2, (hc2.cell (p := ⟨w4.heap.size, 3, none⟩) HZ6.out.2.1).trans l3⟩ (fun hS => ?_)
          clear hK
          try simp only [Act.put, List.setIfInBounds_toArray, List.set_cons_zero, List.set_cons_succ]
          refine wpAnyH_oneD (i := 6) rfl (by kernel_rfl) (fun K hK => ?_)
          go_simp
          refine Calls.mono (HIH.out (((x.made j t).with_ [L]).owing j) (by rw [HSPL.out]; simp) (x.need : Int) (x.ban : Int) Ax (onL (x.next.set j true)).length cx An (onL (x.now.set j true)).length cn At2 m2 ct2 w2a hc2 HRR2.out rfl rfl rfl rfl HM2.out) ?_
          obtain ⟨T2, hT2⟩ : ∃ T, (leaves f n (((x.made j t).with_ [L]).owing j)).map Way.cov = T := ⟨_, rfl⟩
          rw [hT2]
          have HTT2 := Lib.hid hT2
          clear hT2
          rintro e w2b ⟨u2, xs2, rfl, ho2, hcv2, hb2⟩
          have hd2 := hc2.trans (hb2.mono hc2.size)
          have hg2 := hf2.trans (hb2.mono hf2.size)
          have H2 : Hid (WaysPost w2a T2 (.returned u2) w2b) := Lib.hid ⟨u2, xs2, rfl, ho2, hcv2, hb2⟩
          clear ho2 hcv2 hb2
          dsimp only
          refine hK.out _ _ ⟨(hd2.cell (p := ⟨w4.heap.size, 0, none⟩) HZ6.out.2.1).trans l0, (hd2.cell (p := ⟨w4.heap.size, 1, none⟩) HZ6.out.2.1).trans l1, (hd2.cell (p := ⟨w4.heap.size, 2, none⟩) HZ6.out.2.1).trans l2, (hd2.cell (p := ⟨w4.heap.size, 3, none⟩) HZ6.out.2.1).trans l3⟩ (fun hS => ?_)
          clear hK
          try simp only [Act.put, List.setIfInBounds_toArray, List.set_cons_zero, List.set_cons_succ]
          refine wpAnyH_takeD (i := 7) (v := ?_) rfl (by kernel_rfl) (by kernel_rfl) (by kernel_rfl) (fun _ _ _ h => h) (Or.inl ⟨by kernel_rfl, ?_⟩) hS ?_
          rotate_left 1
          · (intro w' hSw; (try dsimp only at hSw); go_simp; try (with_reducible rfl))
          try simp only [Act.put, List.setIfInBounds_toArray, List.set_cons_zero, List.set_cons_succ]
          refine wpAnyH_done (by kernel_rfl) ?_ _
          obtain ⟨u1', xs1, e1', ho1, hcv1, hb1⟩ := H1.out
          cases e1'
          obtain ⟨u2', xs2, e2', ho2, hcv2, hb2⟩ := H2.out
          cases e2'
          obtain ⟨Au, cu, hu2, hsu⟩ := own_sl ho2
          subst hu2
          have hlT : T1.length + T2.length ≤ 1000000 := by
            have hal := HC.out.all
            rw [HLV.out, HSPL.out] at hal
            change (leaves f n ((x.made j t).with_ [R]) ++ (leaves f n (((x.made j t).with_ [L]).owing j) ++ [])).length ≤ _ at hal
            rw [List.append_nil, List.length_append] at hal
            rw [← HTT1.out, ← HTT2.out, List.length_map, List.length_map]; exact hal
          have ho1' := own_base (own_below ho1 hg2) (show w.heap.size ≤ w1a.heap.size from Nat.le_trans (Nat.le_trans HB6.out.size hc1.size) (Nat.le_refl _))
          have hcv1' := hcv1.keep (Tch.of_below hg2) (spares_new _ _)
          have hw2 := HB6.out.trans (hd2.mono HB6.out.size)
          have h1x := hcv2.one' ho2.1
          have HO1 := Lib.hid ho1'
          have HSU := Lib.hid hsu
          have hwz := hw2.size
          clear ho1 hcv1 hb1 ho2 hb2 k0 k1 k2 k3 l0 l1 l2 l3
          clear hsu ho1' hS
          go_wp2_with (at_builtin
                       refine wpList_extend rfl (.tmp 145) (.tmp 146) 42 rfl w.heap.size 47 4 64 sliceCovR _ _ _ HO1.out rfl w2b.heap.size Au T2.length cu xs2 rfl HSU.out h1x (by omega) (by omega) hwz ?_
                       intro v9 w9 hown9 ht9 hat9 hne9)
          go_ret
          rw [HLV.out, HSPL.out]
          show WaysPost w (List.map Way.cov (leaves f n ((x.made j t).with_ [R]) ++ (leaves f n (((x.made j t).with_ [L]).owing j) ++ []))) _ _
          rw [List.append_nil, List.map_append, HTT1.out, HTT2.out]
          exact ways_join hw2 HO1.out hcv1' hcv2 hown9 rfl rfl ht9
        · have HE := Lib.hid e
          have HSPL : Hid (splitW f j (x.made j t) = [(x.made j t).with_ [leftOf f j, rightOf f j], ((x.made j t).with_ [rightOf f j]).owing j]) := Lib.hid (by unfold splitW; rw [e]; rfl)
          obtain ⟨hkd, hL, hRt⟩ := HOP.out.kid2 (by rw [e]; decide)
          generalize leftOf f j = L at *
          generalize rightOf f j = R at *
          rw [hkd]
          rw [e] at hop6
          obtain ⟨wd1, hwd1⟩ : ∃ wd, W6.drew = wd := ⟨_, rfl⟩
          have hbc1 : Below W6.heap.size W6 wd1 := by rw [← hwd1]; exact (Below.refl _ _).drew
          have hbd1 : Below W6.heap.size W6 wd1 := hbc1
          have HWD1 := Lib.hid hwd1
          clear hwd1
          go_wp2_with fail
          refine wp_region_held_drew (S := fun w' => w'.cell? ⟨w.heap.size, 0, none⟩ = some (.int .u64 (x.need : Int)) ∧ w'.cell? ⟨w.heap.size, 1, none⟩ = some (.int .u64 (x.ban : Int)) ∧ w'.cell? ⟨w.heap.size, 2, none⟩ = some (.slice A1 (onL x.next).length c1) ∧ w'.cell? ⟨w.heap.size, 3, none⟩ = some (.slice An (onL (x.now.set j true)).length cn)) (by kernel_rfl) ⟨k0, k1, k2, k3⟩ (fun hS => ?_)
          refine wpAnyH_takeD (i := 0) (v := ?_) rfl (by kernel_rfl) (by kernel_rfl) (by kernel_rfl) (fun _ _ _ h => h) (Or.inl ⟨by kernel_rfl, ?_⟩) hS ?_
          rotate_left 1
          · (intro w' hSw; (try dsimp only at hSw); go_simp; try (with_reducible rfl))
          try simp only [Act.put, List.setIfInBounds_toArray, List.set_cons_zero, List.set_cons_succ]
          refine wpAnyH_takeD (i := 1) (v := ?_) rfl (by kernel_rfl) (by kernel_rfl) (by kernel_rfl) (fun _ _ _ h => h) (Or.inl ⟨by kernel_rfl, ?_⟩) hS ?_
          rotate_left 1
          · (intro w' hSw; (try dsimp only at hSw); go_simp; try (with_reducible rfl))
          try simp only [Act.put, List.setIfInBounds_toArray, List.set_cons_zero, List.set_cons_succ]
          refine wpAnyH_takeD (i := 2) (v := ?_) rfl (by kernel_rfl) (by kernel_rfl) (by kernel_rfl) (fun _ _ _ h => h) (Or.inl ⟨by kernel_rfl, ?_⟩) hS ?_
          rotate_left 1
          · (intro w' hSw; (try dsimp only at hSw); go_simp; try (with_reducible rfl))
          try simp only [Act.put, List.setIfInBounds_toArray, List.set_cons_zero, List.set_cons_succ]
          refine wpAnyH_takeD (i := 3) (v := ?_) rfl (by kernel_rfl) (by kernel_rfl) (by kernel_rfl) (fun _ _ _ h => h) (Or.inl ⟨by kernel_rfl, ?_⟩) hS ?_
          rotate_left 1
          · (intro w' hSw; (try dsimp only at hSw); go_simp; try (with_reducible rfl))
          try simp only [Act.put, List.setIfInBounds_toArray, List.set_cons_zero, List.set_cons_succ]
          refine wpAnyH_takeD (i := 4) (v := ?_) rfl (by kernel_rfl) (by kernel_rfl) (by kernel_rfl) (fun _ _ _ h => h) (Or.inl ⟨by kernel_rfl, ?_⟩) hS ?_
          rotate_left 1
          · (intro w' hSw; (try dsimp only at hSw); go_simp; try (with_reducible rfl))
          try simp only [Act.put, List.setIfInBounds_toArray, List.set_cons_zero, List.set_cons_succ]
          refine wpAnyH_takeD (i := 5) (v := ?_) rfl (by kernel_rfl) (by kernel_rfl) (by kernel_rfl) (fun _ _ _ h => h) (Or.inl ⟨by kernel_rfl, ?_⟩) hS ?_
          rotate_left 1
          · (intro w' hSw; (try dsimp only at hSw); go_simp; try (with_reducible rfl))
          try simp only [Act.put, List.setIfInBounds_toArray, List.set_cons_zero, List.set_cons_succ]
          refine wpAnyH_oneD (i := 6) rfl (by kernel_rfl) (fun K hK => ?_)
          go_simp
          rw [HWD1.out]
          refine Calls.mono (HAH2.out L R wd1 hbd1) ?_
          rintro e w1a ⟨v1, rfl, ho1, hb1⟩
          obtain ⟨At1, ct1, rfl, hT1⟩ := TSl.of_own ho1
          have hc1 := hbd1.trans (hb1.mono hbd1.size)
          have hf1 := hbc1.trans (hb1.mono hbc1.size)
          clear ho1 hb1
          have hRR1 : RR w1a ((x.made j t).with_ [L, R]) A1 c1 An cn At1 ct1 := ⟨HT6.out HN1.out hc1, HT6.out HNW.out hc1, hT1.sl⟩
          obtain ⟨m1, hm1⟩ : ∃ m, (L :: R :: t).length = m := ⟨_, rfl⟩
          rw [hm1]
          have HM1 : Hid (m1 = ((x.made j t).with_ [L, R]).todo.length) := Lib.hid hm1.symm
          have HRR1 := Lib.hid hRR1
          clear hm1 hRR1 hT1
          dsimp only
          refine hK.out _ _ ⟨(hc1.cell (p := ⟨w.heap.size, 0, none⟩) HZ6.out.1).trans k0, (hc1.cell (p := ⟨w.heap.size, 1, none⟩) HZ6.out.1).trans k1, (hc1.cell (p := ⟨w.heap.size, 2, none⟩) HZ6.out.1).trans k2, (hc1.cell (p := ⟨w.heap.size, 3, none⟩) HZ6.out.1).trans k3⟩ (fun hS => ?_)
          clear hK
          try simp only [Act.put, List.setIfInBounds_toArray, List.set_cons_zero, List.set_cons_succ]
          refine wpAnyH_oneD (i := 7) rfl (by kernel_rfl) (fun K hK => ?_)
          go_simp
          refine Calls.mono (HIH.out ((x.made j t).with_ [L, R]) (by rw [HSPL.out]; simp) (x.need : Int) (x.ban : Int) A1 (onL x.next).length c1 An (onL (x.now.set j true)).length cn At1 m1 ct1 w1a hc1 HRR1.out rfl rfl rfl rfl HM1.out) ?_
          obtain ⟨T1, hT1⟩ : ∃ T, (leaves f n ((x.made j t).with_ [L, R])).map Way.cov = T := ⟨_, rfl⟩
          rw [hT1]
          have HTT1 := Lib.hid hT1
          clear hT1
          rintro e w1b ⟨u1, xs1, rfl, ho1, hcv1, hb1⟩
          have hd1 := hc1.trans (hb1.mono hc1.size)
          have hg1 := hf1.trans (hb1.mono hf1.size)
          have H1 : Hid (WaysPost w1a T1 (.returned u1) w1b) := Lib.hid ⟨u1, xs1, rfl, ho1, hcv1, hb1⟩
          clear ho1 hcv1 hb1
          dsimp only
          refine hK.out _ _ ⟨(hd1.cell (p := ⟨w.heap.size, 0, none⟩) HZ6.out.1).trans k0, (hd1.cell (p := ⟨w.heap.size, 1, none⟩) HZ6.out.1).trans k1, (hd1.cell (p := ⟨w.heap.size, 2, none⟩) HZ6.out.1).trans k2, (hd1.cell (p := ⟨w.heap.size, 3, none⟩) HZ6.out.1).trans k3⟩ (fun hS => ?_)
          clear hK
          try simp only [Act.put, List.setIfInBounds_toArray, List.set_cons_zero, List.set_cons_succ]
          refine wpAnyH_takeD (i := 8) (v := ?_) rfl (by kernel_rfl) (by kernel_rfl) (by kernel_rfl) (fun _ _ _ h => h) (Or.inl ⟨by kernel_rfl, ?_⟩) hS ?_
          rotate_left 1
          · (intro w' hSw; (try dsimp only at hSw); go_simp; try (with_reducible rfl))
          try simp only [Act.put, List.setIfInBounds_toArray, List.set_cons_zero, List.set_cons_succ]
          refine wpAnyH_done (by kernel_rfl) ?_ _
          obtain ⟨wd2, hwd2⟩ : ∃ wd, w1b.drew = wd := ⟨_, rfl⟩
          have hbc2 : Below w1b.heap.size w1b wd2 := by rw [← hwd2]; exact (Below.refl _ _).drew
          have hbd2 : Below W6.heap.size W6 wd2 := hd1.trans (hbc2.mono hd1.size)
          have HWD2 := Lib.hid hwd2
          clear hwd2
          go_wp2_with fail
          refine wp_region_held_drew (S := fun w' => w'.cell? ⟨w4.heap.size, 0, none⟩ = some (.int .u64 (x.need : Int)) ∧ w'.cell? ⟨w4.heap.size, 1, none⟩ = some (.int .u64 (x.ban : Int)) ∧ w'.cell? ⟨w4.heap.size, 2, none⟩ = some (.slice Ax (onL (x.next.set j true)).length cx) ∧ w'.cell? ⟨w4.heap.size, 3, none⟩ = some (.slice An (onL (x.now.set j true)).length cn)) (by kernel_rfl) ⟨(hd1.cell (p := ⟨w4.heap.size, 0, none⟩) HZ6.out.2.1).trans l0, (hd1.cell (p := ⟨w4.heap.size, 1, none⟩) HZ6.out.2.1).trans l1, (hd1.cell (p := ⟨w4.heap.size, 2, none⟩) HZ6.out.2.1).trans l2, (hd1.cell (p := ⟨w4.heap.size, 3, none⟩) HZ6.out.2.1).trans l3⟩ (fun hS => ?_)
          refine wpAnyH_takeD (i := 0) (v := ?_) rfl (by kernel_rfl) (by kernel_rfl) (by kernel_rfl) (fun _ _ _ h => h) (Or.inl ⟨by kernel_rfl, ?_⟩) hS ?_
          rotate_left 1
          · (intro w' hSw; (try dsimp only at hSw); go_simp; try (with_reducible rfl))
          try simp only [Act.put, List.setIfInBounds_toArray, List.set_cons_zero, List.set_cons_succ]
          refine wpAnyH_takeD (i := 1) (v := ?_) rfl (by kernel_rfl) (by kernel_rfl) (by kernel_rfl) (fun _ _ _ h => h) (Or.inl ⟨by kernel_rfl, ?_⟩) hS ?_
          rotate_left 1
          · (intro w' hSw; (try dsimp only at hSw); go_simp; try (with_reducible rfl))
          try simp only [Act.put, List.setIfInBounds_toArray, List.set_cons_zero, List.set_cons_succ]
          refine wpAnyH_takeD (i := 2) (v := ?_) rfl (by kernel_rfl) (by kernel_rfl) (by kernel_rfl) (fun _ _ _ h => h) (Or.inl ⟨by kernel_rfl, ?_⟩) hS ?_
          rotate_left 1
          · (intro w' hSw; (try dsimp only at hSw); go_simp; try (with_reducible rfl))
          try simp only [Act.put, List.setIfInBounds_toArray, List.set_cons_zero, List.set_cons_succ]
          refine wpAnyH_takeD (i := 3) (v := ?_) rfl (by kernel_rfl) (by kernel_rfl) (by kernel_rfl) (fun _ _ _ h => h) (Or.inl ⟨by kernel_rfl, ?_⟩) hS ?_
          rotate_left 1
          · (intro w' hSw; (try dsimp only at hSw); go_simp; try (with_reducible rfl))
          try simp only [Act.put, List.setIfInBounds_toArray, List.set_cons_zero, List.set_cons_succ]
          refine wpAnyH_takeD (i := 4) (v := ?_) rfl (by kernel_rfl) (by kernel_rfl) (by kernel_rfl) (fun _ _ _ h => h) (Or.inl ⟨by kernel_rfl, ?_⟩) hS ?_
          rotate_left 1
          · (intro w' hSw; (try dsimp only at hSw); go_simp; try (with_reducible rfl))
          try simp only [Act.put, List.setIfInBounds_toArray, List.set_cons_zero, List.set_cons_succ]
          refine wpAnyH_oneD (i := 5) rfl (by kernel_rfl) (fun K hK => ?_)
          go_simp
          rw [HWD2.out]
          refine Calls.mono (HAH1.out R wd2 hbd2) ?_
          rintro e w2a ⟨v2, rfl, ho2, hb2⟩
          obtain ⟨At2, ct2, rfl, hT2⟩ := TSl.of_own ho2
          have hc2 := hbd2.trans (hb2.mono hbd2.size)
          have hf2 := hbc2.trans (hb2.mono hbc2.size)
          clear ho2 hb2
          have hRR2 : RR w2a (((x.made j t).with_ [R]).owing j) Ax cx An cn At2 ct2 := ⟨HT6.out HNX.out hc2, HT6.out HNW.out hc2, hT2.sl⟩
          obtain ⟨m2, hm2⟩ : ∃ m, (R :: t).length = m := ⟨_, rfl⟩
          rw [hm2]
          have HM2 : Hid (m2 = (((x.made j t).with_ [R]).owing j).todo.length) := Lib.hid hm2.symm
          have HRR2 := Lib.hid hRR2
          clear hm2 hRR2 hT2
          dsimp only
          refine hK.out _ _ ⟨(hc2.cell (p := ⟨w4.heap.size, 0, none⟩) HZ6.out.2.1).trans l0, (hc2.cell (p := ⟨w4.heap.size, 1, none⟩) HZ6.out.2.1).trans l1, (hc2.cell (p := ⟨w4.heap.size, 2, none⟩) HZ6.out.2.1).trans l2, (hc2.cell (p := ⟨w4.heap.size, 3, none⟩) HZ6.out.2.1).trans l3⟩ (fun hS => ?_)
          clear hK
          try simp only [Act.put, List.setIfInBounds_toArray, List.set_cons_zero, List.set_cons_succ]
          refine wpAnyH_oneD (i := 6) rfl (by kernel_rfl) (fun K hK => ?_)
          go_simp
          refine Calls.mono (HIH.out (((x.made j t).with_ [R]).owing j) (by rw [HSPL.out]; simp) (x.need : Int) (x.ban : Int) Ax (onL (x.next.set j true)).length cx An (onL (x.now.set j true)).length cn At2 m2 ct2 w2a hc2 HRR2.out rfl rfl rfl rfl HM2.out) ?_
          obtain ⟨T2, hT2⟩ : ∃ T, (leaves f n (((x.made j t).with_ [R]).owing j)).map Way.cov = T := ⟨_, rfl⟩
          rw [hT2]
          have HTT2 := Lib.hid hT2
          clear hT2
          rintro e w2b ⟨u2, xs2, rfl, ho2, hcv2, hb2⟩
          have hd2 := hc2.trans (hb2.mono hc2.size)
          have hg2 := hf2.trans (hb2.mono hf2.size)
          have H2 : Hid (WaysPost w2a T2 (.returned u2) w2b) := Lib.hid ⟨u2, xs2, rfl, ho2, hcv2, hb2⟩
          clear ho2 hcv2 hb2
          dsimp only
          refine hK.out _ _ ⟨(hd2.cell (p := ⟨w4.heap.size, 0, none⟩) HZ6.out.2.1).trans l0, (hd2.cell (p := ⟨w4.heap.size, 1, none⟩) HZ6.out.2.1).trans l1, (hd2.cell (p := ⟨w4.heap.size, 2, none⟩) HZ6.out.2.1).trans l2, (hd2.cell (p := ⟨w4.heap.size, 3, none⟩) HZ6.out.2.1).trans l3⟩ (fun hS => ?_)
          clear hK
          try simp only [Act.put, List.setIfInBounds_toArray, List.set_cons_zero, List.set_cons_succ]
          refine wpAnyH_takeD (i := 7) (v := ?_) rfl (by kernel_rfl) (by kernel_rfl) (by kernel_rfl) (fun _ _ _ h => h) (Or.inl ⟨by kernel_rfl, ?_⟩) hS ?_
          rotate_left 1
          · (intro w' hSw; (try dsimp only at hSw); go_simp; try (with_reducible rfl))
          try simp only [Act.put, List.setIfInBounds_toArray, List.set_cons_zero, List.set_cons_succ]
          refine wpAnyH_done (by kernel_rfl) ?_ _
          obtain ⟨u1', xs1, e1', ho1, hcv1, hb1⟩ := H1.out
          cases e1'
          obtain ⟨u2', xs2, e2', ho2, hcv2, hb2⟩ := H2.out
          cases e2'
          obtain ⟨Au, cu, hu2, hsu⟩ := own_sl ho2
          subst hu2
          have hlT : T1.length + T2.length ≤ 1000000 := by
            have hal := HC.out.all
            rw [HLV.out, HSPL.out] at hal
            change (leaves f n ((x.made j t).with_ [L, R]) ++ (leaves f n (((x.made j t).with_ [R]).owing j) ++ [])).length ≤ _ at hal
            rw [List.append_nil, List.length_append] at hal
            rw [← HTT1.out, ← HTT2.out, List.length_map, List.length_map]; exact hal
          have ho1' := own_base (own_below ho1 hg2) (show w.heap.size ≤ w1a.heap.size from Nat.le_trans (Nat.le_trans HB6.out.size hc1.size) (Nat.le_refl _))
          have hcv1' := hcv1.keep (Tch.of_below hg2) (spares_new _ _)
          have hw2 := HB6.out.trans (hd2.mono HB6.out.size)
          have h1x := hcv2.one' ho2.1
          have HO1 := Lib.hid ho1'
          have HSU := Lib.hid hsu
          have hwz := hw2.size
          clear ho1 hcv1 hb1 ho2 hb2 k0 k1 k2 k3 l0 l1 l2 l3
          clear hsu ho1' hS
          go_wp2_with (at_builtin
                       refine wpList_extend rfl (.tmp 165) (.tmp 166) 42 rfl w.heap.size 47 4 64 sliceCovR _ _ _ HO1.out rfl w2b.heap.size Au T2.length cu xs2 rfl HSU.out h1x (by omega) (by omega) hwz ?_
                       intro v9 w9 hown9 ht9 hat9 hne9)
          go_ret
          rw [HLV.out, HSPL.out]
          show WaysPost w (List.map Way.cov (leaves f n ((x.made j t).with_ [L, R]) ++ (leaves f n (((x.made j t).with_ [R]).owing j) ++ []))) _ _
          rw [List.append_nil, List.map_append, HTT1.out, HTT2.out]
          exact ways_join hw2 HO1.out hcv1' hcv2 hown9 rfl rfl ht9
      · rw [hnow] at HIN
        go_wp2_with fail
        refine wp_region_held_drew (S := fun w' => w'.cell? ⟨w.heap.size, 3, none⟩ = some (.slice A2 (onL x.now).length c2) ∧ w'.cell? ⟨b, o, none⟩ = some (.int .i64 (j : Int))) (by kernel_rfl) ⟨k3, hj⟩ (fun hS => ?_)
        refine wpAnyH_takeD (i := 0) (v := ?_) rfl (by kernel_rfl) (by kernel_rfl) (by kernel_rfl) (fun _ _ _ h => h) (Or.inl ⟨by kernel_rfl, ?_⟩) hS ?_
        rotate_left 1
        · (intro w' hSw; (try dsimp only at hSw); go_simp; try (with_reducible rfl))
        try simp only [Act.put, List.setIfInBounds_toArray, List.set_cons_zero, List.set_cons_succ]
        refine wpAnyH_takeD (i := 1) (v := ?_) rfl (by kernel_rfl) (by kernel_rfl) (by kernel_rfl) (fun _ _ _ h => h) (Or.inl ⟨by kernel_rfl, ?_⟩) hS ?_
        rotate_left 1
        · (intro w' hSw; (try dsimp only at hSw); go_simp; try (with_reducible rfl))
        try simp only [Act.put, List.setIfInBounds_toArray, List.set_cons_zero, List.set_cons_succ]
        refine wpAnyH_takeD (i := 2) (v := ?_) rfl (by kernel_rfl) (by kernel_rfl) (by kernel_rfl) (fun _ _ _ h => h) (Or.inl ⟨by kernel_rfl, ?_⟩) hS ?_
        rotate_left 1
        · (intro w' hSw; (try dsimp only at hSw); go_simp; try (with_reducible rfl))
        try simp only [Act.put, List.setIfInBounds_toArray, List.set_cons_zero, List.set_cons_succ]
        refine wpAnyH_takeD (i := 3) (v := ?_) rfl (by kernel_rfl) (by kernel_rfl) (by kernel_rfl) (fun _ _ _ h => h) (Or.inl ⟨by kernel_rfl, ?_⟩) hS ?_
        rotate_left 1
        · (intro w' hSw; (try dsimp only at hSw); go_simp; try (with_reducible rfl))
        try simp only [Act.put, List.setIfInBounds_toArray, List.set_cons_zero, List.set_cons_succ]
        refine wpAnyH_takeD (i := 4) (v := ?_) rfl (by kernel_rfl) (by kernel_rfl) (by kernel_rfl) (fun _ _ _ h => h) (Or.inl ⟨by kernel_rfl, ?_⟩) hS ?_
        rotate_left 1
        · (intro w' hSw; (try dsimp only at hSw); go_simp; try (with_reducible rfl))
        try simp only [Act.put, List.setIfInBounds_toArray, List.set_cons_zero, List.set_cons_succ]
        refine wpAnyH_takeD (i := 5) (v := ?_) rfl (by kernel_rfl) (by kernel_rfl) (by kernel_rfl) (fun _ _ _ h => h) (Or.inl ⟨by kernel_rfl, ?_⟩) hS ?_
        rotate_left 1
        · (intro w' hSw; (try dsimp only at hSw); go_simp; try (with_reducible rfl))
        try simp only [Act.put, List.setIfInBounds_toArray, List.set_cons_zero, List.set_cons_succ]
        refine wpAnyH_takeD (i := 6) (v := ?_) rfl (by kernel_rfl) (by kernel_rfl) (by kernel_rfl) (fun _ _ _ h => h) (Or.inl ⟨by kernel_rfl, ?_⟩) hS ?_
        rotate_left 1
        · (intro w' hSw; (try dsimp only at hSw); go_simp; try (with_reducible rfl))
        try simp only [Act.put, List.setIfInBounds_toArray, List.set_cons_zero, List.set_cons_succ]
        refine wpAnyH_takeD (i := 7) (v := ?_) rfl (by kernel_rfl) (by kernel_rfl) (by kernel_rfl) (fun _ _ _ h => h) (Or.inl ⟨by kernel_rfl, ?_⟩) hS ?_
        rotate_left 1
        · (intro w' hSw; (try dsimp only at hSw); go_simp; try (with_reducible rfl))
        try simp only [Act.put, List.setIfInBounds_toArray, List.set_cons_zero, List.set_cons_succ]
        refine wpAnyH_takeD (i := 8) (v := ?_) rfl (by kernel_rfl) (by kernel_rfl) (by kernel_rfl) (fun _ _ _ h => h) (Or.inl ⟨by kernel_rfl, ?_⟩) hS ?_
        rotate_left 1
        · (intro w' hSw; (try dsimp only at hSw); go_simp; try (with_reducible rfl))
        try simp only [Act.put, List.setIfInBounds_toArray, List.set_cons_zero, List.set_cons_succ]
        refine wpAnyH_oneD (i := 9) rfl (by kernel_rfl) (fun K hK => ?_)
        rw [if_pos (by kernel_rfl)]
        go_simp
        rw [HWD.out]
        refine Calls.mono HIN.out ?_
        rintro e w1 ⟨rfl, hb1'⟩
        have hb1 : Below wr.heap.size wr w1 := hbd.trans (hb1'.mono hbd.size)
        clear hb1'
        dsimp only
        refine hK.out _ _ ⟨(hb1.cell (p := ⟨w.heap.size, 3, none⟩) (show w.heap.size < wr.heap.size by omega)).trans k3, (hb1.cell (p := ⟨b, o, none⟩) hbb).trans hj⟩ (fun hS => ?_)
        clear hK
        try simp only [Act.put, List.setIfInBounds_toArray, List.set_cons_zero, List.set_cons_succ]
        refine wpAnyH_takeD (i := 10) (v := ?_) rfl (by kernel_rfl) (by kernel_rfl) (by kernel_rfl) (fun _ _ _ h => h) (Or.inl ⟨by kernel_rfl, ?_⟩) hS ?_
        rotate_left 1
        · (intro w' hSw; (try dsimp only at hSw); go_simp; try (with_reducible rfl))
        try simp only [Act.put, List.setIfInBounds_toArray, List.set_cons_zero, List.set_cons_succ]
        refine wpAnyH_done (by kernel_rfl) ?_ _
        go_wp2_with fail
        go_roundw
        case rel => exact ⟨t, A', c - 1, rfl, hbr.trans (hb1.mono hszr), HTT.out, by show _ = _; rw [← HSK.out]; exact (skip_go hnow).symm, by simp at hll; omega⟩
        case measure => simp [slLen]
end Go.Proofs.Ytedohmcnjlhdnaa
