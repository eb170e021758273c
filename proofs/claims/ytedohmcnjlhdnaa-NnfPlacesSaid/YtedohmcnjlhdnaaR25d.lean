/- The walks of the reference of layer 25: leaf, join, form, Of, Dual. -/
import Derived.Test.YtedohmcnjlhdnaaR25c
import Derived.Test.YtedohmcnjlhdnaaSlN
namespace Go.Proofs.Ytedohmcnjlhdnaa
open Go.RowKit

set_option maxHeartbeats 400000 in
theorem leafR_any (op : Int) (w : World) : Calls Try.prog 59 #[.int .i64 op] w (NewRow w 38 2 1 (ncells [⟨op, 0⟩]) False) := by
  go_enter Try.func59, Try.ntmps59
  go_wp2
  go_ret
  exact ⟨_, rfl, World.ownsRow_lit w #[.int .i64 op, .int .i64 0] 1 (Nat.le_refl _) (by unfold maxLen; omega) rfl, (Below.refl _ _).alloc (Nat.le_refl _) _, by simp⟩

set_option maxHeartbeats 1000000 in
theorem joinR_any (A A' : Option Addr) (n c n' c' : Nat) (f g : List Nd) (op : Int) (w : World) (B B' : Nat) (hn : n = f.length) (hn' : n' = g.length) (hf : Sl w B 2 A n c (ncells f)) (hg : Sl w B' 2 A' n' c' (ncells g)) (_hB : B ≤ w.heap.size) (hB' : B' ≤ w.heap.size)
    (hl : n + n' ≤ 1000000000) :
    Calls Try.prog 60 #[.slice A n c, .slice A' n' c', .int .i64 op] w (NewRow w 38 2 (n + n' + 1) (ncells (f ++ (g ++ [⟨op, 0⟩]))) False) := by
  have HN := Lib.hid hn
  have HN' := Lib.hid hn'
  clear hn hn'
  have h0 := World.ownsRow_nil w w.heap.size 38 2
  go_enter Try.func60, Try.ntmps60
  go_wp2_with (first | (at_builtin; refine wpList_extend rfl (.tmp 8) (.tmp 9) 22 rfl w.heap.size 38 2 16 sliceNd _ _ _ h0 rfl B A n c (ncells f) rfl hf (ncells_one f) (by omega) (by omega) (by simp) ?_; intro v1 w1 hown1 ht1 hat1 hnil1; have hz1 := ht1.size; have hb1 : Below w.heap.size w w1 := ht1.below (Nat.le_refl _) (fun g hg h => by simp [Value.ownBlock] at h)) | (at_builtin; refine wpList_extend rfl (.tmp 11) (.tmp 12) 22 rfl w.heap.size 38 2 16 sliceNd _ _ _ hown1 rfl B' A' n' c' (ncells g) rfl (hg.below hb1 hB') (ncells_one g) (by omega) (by omega) (by omega) ?_; intro v2 w2 hown2 ht2 hat2 hnil2; have hz2 := ht2.size; have hb2 : Below w.heap.size w1 w2 := ht2.below hz1 (fun g hg h => by have := (hown1.lt g h).1; omega)) | (at_builtin; refine wpList_push rfl (.tmp 14) (.tmp 17) 22 rfl w.heap.size 38 2 16 sliceNd _ _ _ (hown2.alloc _) rfl w2.heap.size #[.int .i64 op, .int .i64 0] rfl (heap_alloc_new w2 _) rfl (by simp [Value.oneCell']) (by omega) (by omega) (by simp; omega) ?_; intro v3 w3 hown3 ht3 hat3 hne3))
  go_ret
  refine ⟨v3, rfl, ?_, ?_, by simp [hne3]⟩
  · rw [ncells_append, ncells_append]
    simpa [ncells] using hown3
  · exact (hb1.trans hb2).trans (((Below.refl _ _).alloc (by omega) _).trans (ht3.below (by simp; omega) (fun g hg h => by have := (hown2.lt g h).1; omega)))

theorem At.le {f : List Nd} {s : List Int} {b : Nat} {t : Tr} (h : At f s b t) : b + t.size ≤ f.length := by
  have hp := t.size_pos
  have := (at_root h (k := b + t.size - 1) (by omega)).1
  have := (List.getElem?_eq_some_iff.1 this).1
  omega
theorem flat_cells (t : Tr) : (ncells t.flat).length = t.size * 2 := by rw [ncells_len, t.flat_len]

/-- What form leaves, of the tree t. -/
def FormPost (w : World) (t : Tr) (en : Ending) (w' : World) : Prop := NewRow w 38 2 t.size (ncells t.flat) False en w'

theorem form_done {w w1 w' : World} {t : Tr} {v : Value} {n : Nat} {xs : List Value} (hown : w'.ownsRow w1.heap.size 38 2 v n xs) (hz : w.heap.size ≤ w1.heap.size) (hb : Below w.heap.size w w') (hne : v = .slice none 0 0 ↔ False)
    (hn : n = t.size) (hx : xs = ncells t.flat) : FormPost w t (.returned v) w' := by
  subst hn; subst hx
  exact ⟨v, rfl, own_base hown hz, hb, hne⟩

set_option maxHeartbeats 8000000 in
set_option maxRecDepth 100000 in
theorem formR_any (f : List Nd) (s : List Int) (n n' c c' : Nat) (A A' : Option Addr) (hn : n = f.length) (hn' : n' = s.length) (hl : f.length ≤ 1000000) :
    ∀ (t : Tr) (y : Bool) (b k : Nat) (w : World) (B : Nat), t.ok → At f s b t → k + 1 = b + t.size → Sl w B 2 A n c (ncells f) → Sl w B 1 A' n' c' (icells s) → B ≤ w.heap.size →
      Calls Try.prog 40 #[.slice A n c, .slice A' n' c', .int .i64 k, .bool y] w (FormPost w (nn t y)) := by
  have HN := Lib.hid hn
  have HN' := Lib.hid hn'
  clear hn hn'
  intro t
  induction t with
  | leaf x =>
    intro y b k w B hok hat hk hf hs hB
    have hroot := at_root hat hk
    obtain ⟨hx, hsx⟩ := hroot
    have hkl : k < f.length := (List.getElem?_eq_some_iff.1 hx).1
    have hfk : f[k] = x := by rw [List.getElem?_eq_getElem hkl] at hx; simpa [Tr.root] using hx
    obtain ⟨h0, h3⟩ := hok
    have hbad := Tr.bad_leaf (d := 0) h0 h3
    have htv : takesV x = 0 := by rw [takesV_eq (takesV_bad.1 hbad).1]; exact h0
    have hP := Parts_any A n c f A' n' c' s k w B B HN.out HN'.out hf hs hB hB (by omega) hkl (by rw [hfk, htv]; intro h; omega)
    rw [hfk, show partsV s k x = (-1, -1) by unfold partsV; rw [if_neg (by omega), if_neg (by omega)]] at hP
    have hrd := fun (w1 : World) (hb : Below w.heap.size w w1) => rd_nd (hf.rd.below hb hB) hkl
    rw [hfk] at hrd
    have hnl : k < n := by rw [HN.out]; exact hkl
    have HP := Lib.hid hP
    have HRD := Lib.hid hrd
    clear hP hrd hx hsx hfk htv hbad h3 hat hkl hk
    obtain ⟨op, m⟩ := x
    dsimp only at *
    rcases takes_zero h0 with rfl | rfl | rfl
    all_goals
      cases y
      all_goals
        go_enter Try.func40, Try.ntmps40
        go_wp2_with fail
        refine Calls.mono HP.out ?_
        rintro e w1 ⟨rfl, hb1⟩
        obtain ⟨b0, off, rfl, _, hc0, hc1⟩ := HRD.out w1 hb1
        have hz1 := hb1.size
        first
          | (go_wp2_with fail
             refine (leafR_any _ w1).mono ?_
             rintro e w2 ⟨v2, rfl, hown2, hb2, hne2⟩
             go_wp2
             go_ret
             exact ⟨v2, rfl, own_base hown2 hz1, hb1.trans (hb2.mono hz1), hne2⟩)
          | (go_wp2
             go_ret
             exact ⟨_, rfl, own_base (World.ownsRow_lit w1 #[.int .i64 3, .int .i64 m] 1 (Nat.le_refl _) (by unfold maxLen; omega) rfl) hz1, hb1.alloc hz1 _, by simp⟩)
          | (go_wp2
             go_ret
             exact ⟨_, rfl, own_base (World.ownsRow_lit w1 #[.int .i64 3, .int .i64 m, .int .i64 4, .int .i64 0] 2 (Nat.le_refl _) (by unfold maxLen; omega) rfl) hz1, hb1.alloc hz1 _, by simp⟩)
  | un x a iha =>
    intro y b k w B hok hat hk hf hs hB
    have hroot := at_root hat hk
    obtain ⟨hx, hsx⟩ := hroot
    have hkl : k < f.length := (List.getElem?_eq_some_iff.1 hx).1
    have hfk : f[k] = x := by rw [List.getElem?_eq_getElem hkl] at hx; simpa [Tr.root] using hx
    obtain ⟨h0, hoka⟩ := hok
    have hbad := Tr.bad_node (x := x) (d := 1) (by omega) (by omega)
    have htv : takesV x = 1 := by rw [takesV_eq (takesV_bad.1 hbad).1]; exact h0
    obtain ⟨kl, hkl1⟩ : ∃ kl, kl + 1 = b + a.size := ⟨b + a.size - 1, by have := a.size_pos; omega⟩
    simp only [Tr.size] at hk
    have hP := Parts_any A n c f A' n' c' s k w B B HN.out HN'.out hf hs hB hB (by omega) hkl (by rw [hfk, htv]; intro h; omega)
    rw [hfk, show partsV s k x = ((kl : Int), -1) by unfold partsV; rw [if_pos htv, show (k : Int) - 1 = kl by omega]] at hP
    have hrd := fun (w1 : World) (hb : Below w.heap.size w w1) => rd_nd (hf.rd.below hb hB) hkl
    rw [hfk] at hrd
    have hnl : k < n := by rw [HN.out]; exact hkl
    have hih := fun (y : Bool) (w1 : World) (hb : Below w.heap.size w w1) => iha y b kl w1 B hoka hat.1 hkl1 (hf.below hb hB) (hs.below hb hB) (Nat.le_trans hB hb.size)
    have hsz := hat.1.le
    have hs1 := nn_size a true
    have hs2 := nn_size a false
    have HP := Lib.hid hP
    have HRD := Lib.hid hrd
    have HIH := Lib.hid hih
    clear hP hrd hih hx hsx hfk htv hbad hat hkl hk iha
    obtain ⟨op, m⟩ := x
    dsimp only at *
    rcases takes_one h0 with rfl | rfl | rfl | rfl
    · cases y
      all_goals
        go_enter Try.func40, Try.ntmps40
        go_wp2_with fail
        refine Calls.mono HP.out ?_
        rintro e w1 ⟨rfl, hb1⟩
        obtain ⟨b0, off, rfl, _, hc0, hc1⟩ := HRD.out w1 hb1
        have hz1 := hb1.size
        go_wp2_with fail
        refine Calls.mono (HIH.out _ w1 hb1) ?_
        rintro e w2 ⟨v2, rfl, hown2, hb2, hne2⟩
        go_wp2
        go_ret
        exact form_done hown2 hz1 (hb1.trans (hb2.mono hz1)) hne2 (by simp [nn]) (by simp [nn])
    · cases y
      all_goals
        go_enter Try.func40, Try.ntmps40
        go_wp2_with fail
        refine Calls.mono HP.out ?_
        rintro e w1 ⟨rfl, hb1⟩
        obtain ⟨b0, off, rfl, _, hc0, hc1⟩ := HRD.out w1 hb1
        have hz1 := hb1.size
        go_wp2_with fail
        refine Calls.mono (HIH.out _ w1 hb1) ?_
        rintro e w2 ⟨v2, rfl, hown2, hb2, hne2⟩
        obtain ⟨A2, c2, rfl, hs2'⟩ := own_sl hown2
        have hz2 := hb2.size
        go_wp2_with fail
        refine (joinR_any A2 none _ c2 0 0 _ [] 8 w2 _ 0 (Tr.flat_len _).symm rfl hs2' (Sl.none_ _ _ _) (Nat.le_refl _) (by omega) (by omega)).mono ?_
        rintro e w3 ⟨v3, rfl, hown3, hb3, hne3⟩
        go_wp2
        go_ret
        exact form_done hown3 (by omega) ((hb1.trans (hb2.mono hz1)).trans (hb3.mono (by omega))) hne3 (by simp [nn, Tr.size]) (by simp [nn, Tr.flat])
    all_goals
      cases y
      all_goals
        go_enter Try.func40, Try.ntmps40
        go_wp2_with fail
        refine Calls.mono HP.out ?_
        rintro e w1 ⟨rfl, hb1⟩
        obtain ⟨b0, off, rfl, _, hc0, hc1⟩ := HRD.out w1 hb1
        have hz1 := hb1.size
        go_wp2_with fail
        refine (leafR_any _ w1).mono ?_
        rintro e w1' ⟨v1, rfl, hown1, hb1', _⟩
        obtain ⟨A1, c1, rfl, hs1'⟩ := own_sl hown1
        have hz1' := hb1'.size
        go_wp2_with fail
        refine Calls.mono (HIH.out _ w1' (hb1.trans (hb1'.mono hz1))) ?_
        rintro e w2 ⟨v2, rfl, hown2, hb2, hne2⟩
        obtain ⟨A2, c2, rfl, hs2'⟩ := own_sl hown2
        have hz2 := hb2.size
        go_wp2_with fail
        refine (joinR_any A1 A2 1 c1 _ c2 [⟨_, 0⟩] _ _ w2 _ _ rfl (Tr.flat_len _).symm (hs1'.below hb2 (Nat.le_refl _)) hs2' (by omega) (Nat.le_refl _) (by omega)).mono ?_
        rintro e w3 ⟨v3, rfl, hown3, hb3, hne3⟩
        go_wp2
        go_ret
        exact form_done hown3 (by omega) (((hb1.trans (hb1'.mono hz1)).trans (hb2.mono (by omega))).trans (hb3.mono (by omega))) hne3 (by simp [nn, Tr.size]) (by simp [nn, Tr.flat])
  | bin x a d iha ihd =>
    intro y b k w B hok hat hk hf hs hB
    have hroot := at_root hat hk
    obtain ⟨hx, hsx⟩ := hroot
    have hkl : k < f.length := (List.getElem?_eq_some_iff.1 hx).1
    have hfk : f[k] = x := by rw [List.getElem?_eq_getElem hkl] at hx; simpa [Tr.root] using hx
    obtain ⟨h0, hoka, hokd⟩ := hok
    have hbad := Tr.bad_node (x := x) (d := 2) (by omega) (by omega)
    have htv : takesV x = 2 := by rw [takesV_eq (takesV_bad.1 hbad).1]; exact h0
    obtain ⟨kl, hkl1⟩ : ∃ kl, kl + 1 = b + a.size := ⟨b + a.size - 1, by have := a.size_pos; omega⟩
    obtain ⟨kr, hkr1⟩ : ∃ kr, kr + 1 = (b + a.size) + d.size := ⟨b + a.size + d.size - 1, by have := d.size_pos; omega⟩
    simp only [Tr.size] at hk
    have hkk : k - 1 = kr := by omega
    have hskr := (at_root hat.2.1 hkr1).2
    have hP := Parts_any A n c f A' n' c' s k w B B HN.out HN'.out hf hs hB hB (by omega) hkl (by rw [hkk]; intro _; exact ⟨by omega, _, hskr, by omega, by omega⟩)
    rw [hfk, show partsV s k x = ((kl : Int), (kr : Int)) by
      unfold partsV
      rw [if_neg (by omega), if_pos htv, hkk, hskr, show (k : Int) - 1 = kr by omega, Option.getD_some, show ((b + a.size : Nat) : Int) - 1 = kl by omega]] at hP
    have hrd := fun (w1 : World) (hb : Below w.heap.size w w1) => rd_nd (hf.rd.below hb hB) hkl
    rw [hfk] at hrd
    have hnl : k < n := by rw [HN.out]; exact hkl
    have hiha := fun (y : Bool) (w1 : World) (hb : Below w.heap.size w w1) => iha y b kl w1 B hoka hat.1 hkl1 (hf.below hb hB) (hs.below hb hB) (Nat.le_trans hB hb.size)
    have hihd := fun (y : Bool) (w1 : World) (hb : Below w.heap.size w w1) => ihd y (b + a.size) kr w1 B hokd hat.2.1 hkr1 (hf.below hb hB) (hs.below hb hB) (Nat.le_trans hB hb.size)
    have hsz := hat.2.1.le
    have hs1 := nn_size a true
    have hs2 := nn_size a false
    have hs3 := nn_size d true
    have hs4 := nn_size d false
    have HP := Lib.hid hP
    have HRD := Lib.hid hrd
    have HIA := Lib.hid hiha
    have HID := Lib.hid hihd
    clear hP hrd hiha hihd hx hsx hfk htv hbad hat hkl hk iha ihd hskr hkk
    obtain ⟨op, m⟩ := x
    dsimp only at *
    rcases takes_two h0 with rfl | rfl | rfl | rfl | rfl
    all_goals
      cases y
      all_goals
        go_enter Try.func40, Try.ntmps40
        go_wp2_with fail
        refine Calls.mono HP.out ?_
        rintro e w1 ⟨rfl, hb1⟩
        obtain ⟨b0, off, rfl, _, hc0, hc1⟩ := HRD.out w1 hb1
        have hz1 := hb1.size
        go_wp2_with fail
        refine Calls.mono (HIA.out _ w1 hb1) ?_
        rintro e w1' ⟨v1, rfl, hown1, hb1', _⟩
        obtain ⟨A1, c1, rfl, hs1'⟩ := own_sl hown1
        have hz1' := hb1'.size
        go_wp2_with fail
        refine Calls.mono (HID.out _ w1' (hb1.trans (hb1'.mono hz1))) ?_
        rintro e w2 ⟨v2, rfl, hown2, hb2, hne2⟩
        obtain ⟨A2, c2, rfl, hs2'⟩ := own_sl hown2
        have hz2 := hb2.size
        go_wp2_with fail
        refine (joinR_any A1 A2 _ c1 _ c2 _ _ _ w2 _ _ (Tr.flat_len _).symm (Tr.flat_len _).symm (hs1'.below hb2 (Nat.le_refl _)) hs2' (by omega) (Nat.le_refl _) (by omega)).mono ?_
        rintro e w3 ⟨v3, rfl, hown3, hb3, hne3⟩
        go_wp2
        go_ret
        exact form_done hown3 (by omega) (((hb1.trans (hb1'.mono hz1)).trans (hb2.mono (by omega))).trans (hb3.mono (by omega))) hne3 (by simp [nn, Tr.size]) (by simp [nn, Tr.flat])

set_option maxHeartbeats 1000000 in
theorem OfR_any (A : Option Addr) (c : Nat) (f : List Nd) (w : World) (B : Nat) (hf : Sl w B 2 A f.length c (ncells f)) (hB : B ≤ w.heap.size) (hl : f.length ≤ 1000000) :
    Calls Try.prog 22 #[.slice A f.length c] w (NewRow w 38 2 (formL f true).length (ncells (formL f true)) (formL f true = [])) := by
  go_enter Try.func22, Try.ntmps22
  go_wp2_with fail
  refine (Begins_any A c f _ B hf hB (by omega)).mono ?_
  rintro e w1 ⟨v1, rfl, hown1, hb1, _⟩
  have hz1 := hb1.size
  by_cases hw : wrong f = 0
  · have hw' : (wrong f == 0) = true := by simp [hw]
    obtain ⟨hok, hfl⟩ := treeOf_ok hw
    have hat := at_whole hok
    rw [hfl] at hat
    have hsz : (treeOf f).size = f.length := by rw [← Tr.flat_len, hfl]
    have hpos := (treeOf f).size_pos
    obtain ⟨k, hk⟩ : ∃ k, k + 1 = 0 + (treeOf f).size := ⟨(treeOf f).size - 1, by omega⟩
    obtain ⟨A1, c1, rfl, hs1⟩ := own_sl hown1
    have hF := formR_any f (spans f) _ _ c c1 A A1 rfl rfl hl (treeOf f) true 0 k w1 w1.heap.size hok hat hk ((hf.below hb1 hB).up (by omega)) hs1 (Nat.le_refl _)
    have hkk : (f.length : Int) - 1 = k := by omega
    have HF := Lib.hid hF
    have HK := Lib.hid hkk
    have HW := Lib.hid hw
    clear hF hkk hk hw hok hfl hat hown1
    go_wp2_with fail
    rw [HK.out]
    refine Calls.mono HF.out ?_
    rintro e w2 ⟨v2, rfl, hown2, hb2, hne2⟩
    go_wp2
    go_ret
    have hfl : formL f true = (nn (treeOf f) true).flat := by rw [formL, if_pos HW.out]
    have hne : ¬ formL f true = [] := by rw [formL_nil]; simp [HW.out]
    refine ⟨v2, rfl, ?_, hb1.trans (hb2.mono hz1), by rw [hne2]; simp [hne]⟩
    rw [hfl, Tr.flat_len]; exact own_base hown2 hz1
  · have hw' : (wrong f == 0) = false := by simpa using hw
    have HW := Lib.hid hw
    clear hw
    go_wp2
    go_ret
    have h0 : formL f true = [] := (formL_nil _ _).2 HW.out
    exact ⟨_, rfl, by rw [h0]; exact World.ownsRow_nil _ _ _ _, hb1, by simp [h0]⟩

set_option maxHeartbeats 1000000 in
theorem DualR_any (A : Option Addr) (c : Nat) (f : List Nd) (w : World) (B : Nat) (hf : Sl w B 2 A f.length c (ncells f)) (hB : B ≤ w.heap.size) (hl : f.length ≤ 1000000) :
    Calls Try.prog 24 #[.slice A f.length c] w (NewRow w 38 2 (formL f false).length (ncells (formL f false)) (formL f false = [])) := by
  go_enter Try.func24, Try.ntmps24
  go_wp2_with fail
  refine (Begins_any A c f _ B hf hB (by omega)).mono ?_
  rintro e w1 ⟨v1, rfl, hown1, hb1, _⟩
  have hz1 := hb1.size
  by_cases hw : wrong f = 0
  · have hw' : (wrong f == 0) = true := by simp [hw]
    obtain ⟨hok, hfl⟩ := treeOf_ok hw
    have hat := at_whole hok
    rw [hfl] at hat
    have hsz : (treeOf f).size = f.length := by rw [← Tr.flat_len, hfl]
    have hpos := (treeOf f).size_pos
    obtain ⟨k, hk⟩ : ∃ k, k + 1 = 0 + (treeOf f).size := ⟨(treeOf f).size - 1, by omega⟩
    obtain ⟨A1, c1, rfl, hs1⟩ := own_sl hown1
    have hF := formR_any f (spans f) _ _ c c1 A A1 rfl rfl hl (treeOf f) false 0 k w1 w1.heap.size hok hat hk ((hf.below hb1 hB).up (by omega)) hs1 (Nat.le_refl _)
    have hkk : (f.length : Int) - 1 = k := by omega
    have HF := Lib.hid hF
    have HK := Lib.hid hkk
    have HW := Lib.hid hw
    clear hF hkk hk hw hok hfl hat hown1
    go_wp2_with fail
    rw [HK.out]
    refine Calls.mono HF.out ?_
    rintro e w2 ⟨v2, rfl, hown2, hb2, hne2⟩
    go_wp2
    go_ret
    have hfl : formL f false = (nn (treeOf f) false).flat := by rw [formL, if_pos HW.out]
    have hne : ¬ formL f false = [] := by rw [formL_nil]; simp [HW.out]
    refine ⟨v2, rfl, ?_, hb1.trans (hb2.mono hz1), by rw [hne2]; simp [hne]⟩
    rw [hfl, Tr.flat_len]; exact own_base hown2 hz1
  · have hw' : (wrong f == 0) = false := by simpa using hw
    have HW := Lib.hid hw
    clear hw
    go_wp2
    go_ret
    have h0 : formL f false = [] := (formL_nil _ _).2 HW.out
    exact ⟨_, rfl, by rw [h0]; exact World.ownsRow_nil _ _ _ _, hb1, by simp [h0]⟩
end Go.Proofs.Ytedohmcnjlhdnaa
