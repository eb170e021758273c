/- The walks of layer 26: has, with, next. -/
import Derived.Test.YtkikkplpalabhaaSm2
namespace Go.Proofs.Ytkikkplpalabhaa
open Go.RowKit

set_option maxHeartbeats 1000000 in
theorem has_any (A A2 : Option Addr) (n c n2 c2 : Nat) (l g : List Nd) (op : Int) (w : World) (B B2 : Nat) (hs : Sl w B 2 A n c (ncells l)) (hs2 : Sl w B2 2 A2 n2 c2 (ncells g)) (hn : n = l.length) (hn2 : n2 = g.length) (hne : 0 < n) (hB : B ≤ w.heap.size) (hB2 : B2 ≤ w.heap.size)
    (hl : n ≤ 1000000) (hk : KOk n (kids l ((n : Int) - 1))) :
    Calls Try.prog 122 #[.slice A n c, .int .i64 op, .slice A2 n2 c2] w (Tru w (hasL l op g)) := by
  have hO := fop_any A n c l w B hs hn hne (by omega)
  have hP := parts_any A n c l w B hs hn hne hB hl hk
  have hpl : (partsL l).1.length ≤ 1000000 ∧ (partsL l).2.length ≤ 1000000 := by
    unfold partsL
    split
    · simp
    split
    · simp; omega
    · simp; omega
  have hh : ∀ b1 b2 b3, (opL l == op) = b1 → decide ((partsL l).1 = g) = b2 → decide ((partsL l).2 = g) = b3 → hasL l op g = (b1 && (b2 || b3)) := by rintro b1 b2 b3 rfl rfl rfl; rfl
  generalize partsL l = p at *
  generalize opL l = x at *
  have HO := Lib.hid hO
  have HP := Lib.hid hP
  have HN := Lib.hid hn2
  have HH := Lib.hid hh
  clear hO hP hn hn2 hh
  cases hx : (x == op)
  · have hxn : (x != op) = true := by simp [bne, hx]
    have HX := Lib.hid hx
    clear hx
    go_enter Try.func122, Try.ntmps122
    go_wp2_with fail
    refine Calls.mono HO.out ?_
    rintro e w1 ⟨rfl, rfl⟩
    go_wp2
    go_ret
    exact ⟨ret_bool (by rw [HH.out _ _ _ HX.out rfl rfl]; rfl), Below.refl _ _⟩
  · have hxn : (x != op) = false := by simp [bne, hx]
    have HX := Lib.hid hx
    clear hx
    go_enter Try.func122, Try.ntmps122
    go_wp2_with fail
    refine Calls.mono HO.out ?_
    rintro e w1 ⟨rfl, rfl⟩
    go_wp2_with fail
    refine Calls.mono HP.out ?_
    rintro e w1 ⟨A3, c3, A4, c4, rfl, hs3, hs4, hb1⟩
    have hsg := hs2.below hb1 hB2
    cases h1 : decide (p.1 = g)
    · have H1 := Lib.hid h1
      clear h1
      cases h2 : decide (p.2 = g)
      all_goals
        have H2 := Lib.hid h2
        clear h2
        go_wp2_with fail
        refine (fsame_any A3 A2 _ c3 _ c2 p.1 g _ _ _ hs3 hsg rfl HN.out (by omega)).mono ?_
        rw [H1.out]
        rintro e w2 ⟨rfl, m, rfl⟩
        go_wp2_with fail
        refine (fsame_any A4 A2 _ c4 _ c2 p.2 g _ _ _ (hs4.below (below_drewN (Below.refl _ _) m) (Nat.le_refl _)) (hsg.below (below_drewN (Below.refl B2 _) m) (Nat.le_refl _)) rfl HN.out (by omega)).mono ?_
        rw [H2.out]
        rintro e w2 ⟨rfl, m2, rfl⟩
        go_wp2
        go_ret
        exact ⟨ret_bool (by rw [HH.out _ _ _ HX.out H1.out H2.out]; rfl), below_drewN hb1 _⟩
    · have H1 := Lib.hid h1
      clear h1
      go_wp2_with fail
      refine (fsame_any A3 A2 _ c3 _ c2 p.1 g _ _ _ hs3 hsg rfl HN.out (by omega)).mono ?_
      rw [H1.out]
      rintro e w2 ⟨rfl, m, rfl⟩
      go_wp2
      go_ret
      exact ⟨ret_bool (by rw [HH.out _ _ _ HX.out H1.out rfl]; rfl), below_drewN hb1 _⟩

/-- The block of an address holds nodes. -/
def Nb (w : World) (A : Option Addr) : Prop := ∀ a, A = some a → ∃ cs, w.heap[a.block]? = some (.cells cs 42 (0, 0))
theorem Nb.below {w w' : World} {A : Option Addr} (h : Nb w A) (hb : Below w.heap.size w w') : Nb w' A := fun a ha => by
  obtain ⟨cs, hc⟩ := h a ha
  exact ⟨cs, (hb.block _ (lt_of_block hc)).trans hc⟩
theorem own_nb {w : World} {base size n c m : Nat} {A : Option Addr} {xs : List Value} (h : w.ownsRow base 42 size (.slice A m c) n xs) : Nb w A := fun a ha => by
  rcases h.2 with ⟨h0, _⟩ | ⟨g, cap, cur, hv, _, hh, _⟩
  · cases h0; cases ha
  · cases hv; cases ha; exact ⟨cur, hh⟩
/-- A row of nodes, not empty. -/
def FormPost (w : World) (l : List Nd) (e : Ending) (w' : World) : Prop :=
  ∃ A c, e = .returned (.slice A l.length c) ∧ Sl w' w'.heap.size 2 A l.length c (ncells l) ∧ Nb w' A ∧ Below w.heap.size w w'
set_option maxHeartbeats 1000000 in
theorem with_any (A : Option Addr) (n c : Nat) (L : List (List Nd)) (op : Int) (w : World) (B : Nat) (hs : Sl2 w B 2 A n c (L.map ncells)) (hB : B ≤ w.heap.size) (hl : totF L ≤ 1000000) :
    Calls Try.prog 58 #[.int .i64 op, .slice A n c] w (FormPost w (withL op L.flatten)) := by
  have hC := concatF_any A n c L w B hs hB (by omega)
  have hlen : (withL op L.flatten).length = totF L + 1 := by rw [withL, List.length_append, totF_flat]; rfl
  have hcells : ncells (withL op L.flatten) = ncells L.flatten ++ [.int .i64 op, .int .i64 0] := by simp [withL, ncells]
  unfold FormPost
  rw [hlen, hcells]
  have H := Lib.hid hC
  clear hC hlen hcells
  generalize totF L = t at *
  go_enter Try.func58, Try.ntmps58
  go_wp2_with fail
  refine Calls.mono H.out ?_
  rintro e w1 ⟨v1, rfl, hown1, hb1, hn1⟩
  clear hn1
  have hz1 := hb1.size
  go_wp2_with (at_builtin; refine wpList_push rfl (.tmp 6) (.tmp 9) 66 rfl w.heap.size 42 2 16 sliceF v1 t _ (hown1.alloc _) rfl w1.heap.size #[.int .i64 op, .int .i64 0] rfl (heap_alloc_new w1 _) rfl (by simp [Value.oneCell']) (by omega) (by omega) (by simp; omega) ?_; intro v2 w2 hown2 ht2 hat2 hne2)
  go_ret
  obtain ⟨A2, c2, rfl, hs2⟩ := own_sl hown2
  refine ⟨A2, c2, rfl, hs2, own_nb hown2, ?_⟩
  exact (hb1.alloc hz1 _).trans (ht2.below (by simp; omega) (fun g hg hg' => by have := (hown1.lt g hg').1; omega))
/-- One row, given as the one part. -/
theorem sl2_one {w : World} {B size g n c t : Nat} {A : Option Addr} {ys : List Value} (hg : w.heap[g]? = some (.cells #[.slice A n c] t (0, 0))) (hgB : g < B) (hs : Sl w B size A n c ys) : Sl2 w B size (some ⟨g, 0, none⟩) 1 1 [ys] := by
  refine ⟨[.slice A n c], ⟨rfl, Nat.le_refl _, by unfold maxLen; omega, by simp, .inr ⟨g, 0, rfl, hgB, fun j u hu => ?_⟩⟩, rfl, fun j zs hj => ?_⟩
  · rcases j with _ | j
    · simp at hu; subst hu; rw [cell_of_row w g _ _ _ (0, 0) hg]; rfl
    · simp at hu
  · rcases j with _ | j
    · simp at hj; subst hj; exact ⟨A, n, c, rfl, hs⟩
    · simp at hj
theorem sl2_two {w : World} {B size g n c n' c' t : Nat} {A A' : Option Addr} {ys zs : List Value} (hg : w.heap[g]? = some (.cells #[.slice A n c, .slice A' n' c'] t (0, 0))) (hgB : g < B) (hs : Sl w B size A n c ys) (hs' : Sl w B size A' n' c' zs) : Sl2 w B size (some ⟨g, 0, none⟩) 2 2 [ys, zs] := by
  refine ⟨[.slice A n c, .slice A' n' c'], ⟨rfl, Nat.le_refl _, by unfold maxLen; omega, by simp, .inr ⟨g, 0, rfl, hgB, fun j u hu => ?_⟩⟩, rfl, fun j xs hj => ?_⟩
  · rcases j with _ | _ | j
    · simp at hu; subst hu; rw [cell_of_row w g _ _ _ (0, 0) hg]; rfl
    · simp at hu; subst hu; rw [cell_of_row w g _ _ _ (0, 0) hg]; rfl
    · simp at hu
  · rcases j with _ | _ | j
    · simp at hj; subst hj; exact ⟨A, n, c, rfl, hs⟩
    · simp at hj; subst hj; exact ⟨A', n', c', rfl, hs'⟩
    · simp at hj
set_option maxHeartbeats 1000000 in
theorem snext_any (A : Option Addr) (n c : Nat) (l : List Nd) (w : World) (B : Nat) (hs : Sl w B 2 A n c (ncells l)) (hA : Nb w A) (hn : n = l.length) (hne : 0 < n) (hB : B ≤ w.heap.size) (hl : n ≤ 1000000) :
    Calls Try.prog 59 #[.slice A n c] w (FormPost w (nextL l)) := by
  have hb := bare_any A n c l w B hs hn hne (by omega)
  have HB := Lib.hid hb
  have HN := Lib.hid hn
  clear hb hn
  cases e : bareL l
  · have hx : nextL l = withL 8 l := by simp [nextL, e]
    have ht : totF [l] ≤ 1000000 := by have := HN.out; simp [totF]; omega
    rw [hx]
    have E := Lib.hid e
    clear e hx
    have hb1 : Below w.heap.size w (w.alloc (.cells #[.slice A n c] 66)) := (Below.refl _ _).alloc (Nat.le_refl _) _
    have hs1 := (hs.below hb1 hB).up (B' := w.heap.size + 1) (by omega)
    have hw := with_any _ 1 1 [l] 8 (w.alloc (.cells #[.slice A n c] 66)) (w.heap.size + 1) (sl2_one (heap_alloc_new w _) (Nat.lt_succ_self _) hs1) (by simp) ht
    rw [show [l].flatten = l by simp] at hw
    have HW := Lib.hid hw
    clear hw
    go_enter Try.func59, Try.ntmps59
    go_wp2_with fail
    refine Calls.mono HB.out ?_
    rw [E.out]
    rintro e w1 ⟨rfl, rfl⟩
    go_wp2_with fail
    refine Calls.mono HW.out ?_
    rintro e w2 ⟨A2, c2, rfl, hs2, hA2, hb2⟩
    go_wp2
    go_ret
    exact ⟨A2, c2, rfl, hs2, hA2, hb1.trans (hb2.mono (by simp))⟩
  · have hx : nextL l = l := by simp [nextL, e]
    rw [hx]
    have E := Lib.hid e
    clear e hx
    go_enter Try.func59, Try.ntmps59
    go_wp2_with fail
    refine Calls.mono HB.out ?_
    rw [E.out]
    rintro e w1 ⟨rfl, rfl⟩
    go_wp2
    go_ret
    have := HN.out
    subst this
    exact ⟨A, c, rfl, hs.up hB, hA, Below.refl _ _⟩
end Go.Proofs.Ytkikkplpalabhaa
