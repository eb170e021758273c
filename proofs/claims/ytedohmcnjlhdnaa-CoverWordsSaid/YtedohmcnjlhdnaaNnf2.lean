/- The walks of layer 25's writer: both, ever, part. -/
import Derived.Test.YtedohmcnjlhdnaaNnf1
namespace Go.Proofs.Ytedohmcnjlhdnaa
open Go.RowKit

def PartSpec (f : List Nd) (s : List Int) (A A' : Option Addr) (c c' Bw : Nat) (t : Tr) (b : Nat) : Prop :=
  ∀ (no : Bool) (k : Nat) (w : World) (vo : Value) (n : Nat) (xs : List Value), k + 1 = b + t.size → WIn f s A A' c c' Bw w vo n xs → n + 2 * t.size ≤ 100000000 →
    Calls Try.prog 58 #[.pointer (some ⟨Bw, 0, none⟩), .int .i64 k, .bool no] w (WOut f s A A' c c' Bw w vo n xs (nn t (!no)).size (ncells (nn t (!no)).flat))

section
variable {f : List Nd} {s : List Int} {A A' : Option Addr} {c c' Bw : Nat}

theorem out_eq {w w' : World} {vo : Value} {n m m' : Nat} {xs news news' : List Value} {en : Ending} (h : WOut f s A A' c c' Bw w vo n xs m news en w') (hm : m = m') (hn : news = news') : WOut f s A A' c c' Bw w vo n xs m' news' en w' := by
  subst hm; subst hn; exact h

set_option maxHeartbeats 1000000 in
theorem both_any (a d : Tr) (b kl kr k : Nat) (hk : k = kr + 1) (left right : Bool) (op : Int) (_hl : f.length ≤ 1000000) (ha : PartSpec f s A A' c c' Bw a b) (hd : PartSpec f s A A' c c' Bw d (b + a.size)) (hkl : kl + 1 = b + a.size) (hkr : kr + 1 = b + a.size + d.size)
    (hs : s[kr]? = some ((kl : Int) + 1)) (hkl2 : kr < 1000000000) (w : World) (vo : Value) (n : Nat) (xs : List Value) (hin : WIn f s A A' c c' Bw w vo n xs) (hn : n + 2 * a.size + 2 * d.size + 2 ≤ 100000000) :
    Calls Try.prog 74 #[.pointer (some ⟨Bw, 0, none⟩), .int .i64 (k : Nat), .bool left, .bool right, .int .i64 op] w
      (WOut f s A A' c c' Bw w vo n xs ((nn a (!left)).size + ((nn d (!right)).size + 1)) (ncells (nn a (!left)).flat ++ (ncells (nn d (!right)).flat ++ [.int .i64 op, .int .i64 0]))) := by
  obtain ⟨q0, q1, q2, q3⟩ := cells3 hin.1
  obtain ⟨b1, o1, rfl, _, hcs⟩ := hin.2.2.2.rd.at_ (j := k - 1) (u := .int .i64 ((kl : Int) + 1)) (by rw [hk]; simp [icells, hs])
  have hks : kr < s.length := (List.getElem?_eq_some_iff.1 hs).1
  have hsa := nn_size a (!left)
  have hsd := nn_size d (!right)
  have h1 : (k : Int) - 1 < (s.length : Int) := by omega
  have h0 : (0 : Int) ≤ (k : Int) - 1 := by omega
  have hkk : (k : Int) - 1 = (kr : Int) := by omega
  have HKK := Lib.hid hkk
  have hk9 : k ≤ 1000000000 := by omega
  have hk8 : 1 ≤ k := by omega
  clear hkk hk
  have hklb : kl < 1000000000 := by have := d.size_pos; omega
  have HA := Lib.hid ha
  have HD := Lib.hid hd
  clear ha hd hs
  go_enter Try.func74, Try.ntmps74
  go_wp2_with fail
  refine (HA.out left kl w vo n xs hkl hin (by omega)).mono ?_
  rintro e w1 h1'
  have h1'' := h1'
  obtain ⟨vo1, rfl, hin1, ht1, hat1, hne1⟩ := h1''
  go_wp2_with fail
  rw [HKK.out]
  refine (HD.out right kr w1 vo1 _ _ hkr hin1 (by omega)).mono ?_
  rintro e w2 h2'
  have h2'' := h2'
  obtain ⟨vo2, rfl, hin2, ht2, hat2, hne2⟩ := h2''
  go_wp2_with fail
  refine (leafW_any f s _ _ c c' Bw op w2 vo2 _ _ hin2 (by omega)).mono ?_
  rintro e w3 h3'
  have h3'' := h3'
  obtain ⟨vo3, rfl, hin3, ht3, hat3, hne3⟩ := h3''
  go_wp2
  go_end0
  exact wout_then ht1 hat1 (wout_then ht2 hat2 h3')

set_option maxHeartbeats 1000000 in
theorem ever_any (a : Tr) (b kl k : Nat) (hk : k = kl + 1) (no ut : Bool) (ha : PartSpec f s A A' c c' Bw a b) (hkl : kl + 1 = b + a.size) (hkl2 : kl < 1000000000) (w : World) (vo : Value) (n : Nat) (xs : List Value) (hin : WIn f s A A' c c' Bw w vo n xs) (hn : n + 2 * a.size + 2 ≤ 100000000) :
    Calls Try.prog 75 #[.pointer (some ⟨Bw, 0, none⟩), .int .i64 (k : Nat), .bool no, .bool ut] w
      (WOut f s A A' c c' Bw w vo n xs (1 + ((nn a (!no)).size + 1)) ([.int .i64 (if ut then 1 else 2), .int .i64 0] ++ (ncells (nn a (!no)).flat ++ [.int .i64 (if ut then 9 else 10), .int .i64 0]))) := by
  have hsa := nn_size a (!no)
  have HA := Lib.hid ha
  clear ha
  have hkk : (k : Int) - 1 = (kl : Int) := by omega
  have HKK := Lib.hid hkk
  have hk9 : k ≤ 1000000000 := by omega
  have hk8 : 1 ≤ k := by omega
  clear hkk hk
  cases ut
  all_goals
    go_enter Try.func75, Try.ntmps75
    go_wp2_with fail
    refine (leafW_any f s _ _ c c' Bw _ w vo n xs hin (by omega)).mono ?_
    rintro e w1 h1'
    have h1'' := h1'
    obtain ⟨vo1, rfl, hin1, ht1, hat1, hne1⟩ := h1''
    go_wp2_with fail
    rw [HKK.out]
    refine (HA.out no kl w1 vo1 _ _ hkl hin1 (by omega)).mono ?_
    rintro e w2 h2'
    have h2'' := h2'
    obtain ⟨vo2, rfl, hin2, ht2, hat2, hne2⟩ := h2''
    go_wp2_with fail
    refine (leafW_any f s _ _ c c' Bw _ w2 vo2 _ _ hin2 (by omega)).mono ?_
    rintro e w3 h3'
    have h3'' := h3'
    obtain ⟨vo3, rfl, hin3, ht3, hat3, hne3⟩ := h3''
    go_wp2
    first
      | (go_end0; exact wout_then ht1 hat1 (wout_then ht2 hat2 h3'))
      | (refine bodyPost_ret (results_none rfl _ _ _) rfl ?_; exact wout_then ht1 hat1 (wout_then ht2 hat2 h3'))

theorem ncells_one1 (x : Nd) : ncells [x] = [.int .i64 x.op, .int .i64 x.n] := rfl

set_option maxHeartbeats 8000000 in
set_option maxRecDepth 100000 in
theorem part_any (hl : f.length ≤ 1000000) : ∀ (t : Tr) (b : Nat), t.ok → At f s b t → PartSpec f s A A' c c' Bw t b := by
  intro t
  induction t with
  | leaf x =>
    intro b hok hat no k w vo n xs hk hin hn
    obtain ⟨hx, hsx⟩ := at_root hat hk
    have hkl : k < f.length := (List.getElem?_eq_some_iff.1 hx).1
    have hfk : f[k] = x := by rw [List.getElem?_eq_getElem hkl] at hx; simpa [Tr.root] using hx
    obtain ⟨b0, o0, rfl, _, hc0, hc1⟩ := rd_nd hin.2.2.1.rd hkl
    rw [hfk] at hc0 hc1
    obtain ⟨q0, q1, q2, q3⟩ := cells3 hin.1
    obtain ⟨op, m⟩ := x
    dsimp only at *
    have hin1 := hin.alloc (.cells #[.int .i64 op, .int .i64 m] 38)
    clear hx hsx hfk
    rcases takes_zero hok.1 with rfl | rfl | rfl
    · cases no
      all_goals
        go_enter Try.func58, Try.ntmps58
        go_wp2_with (go_at_call 73; refine (pick_any _ _ _ _).mono ?_; rintro e w' ⟨rfl, rfl⟩)
        refine (leafW_any f s _ _ c c' Bw _ _ vo n xs hin1 (by omega)).mono ?_
        rintro e w3 h3'
        have h3'' := h3'
        obtain ⟨vo3, rfl, hin3, ht3, hat3, hne3⟩ := h3''
        go_wp2
        go_end0
        exact out_eq (WOut.behind _ h3') (by simp [nn, Tr.size]) (by simp [nn, Tr.flat, ncells])
    · cases no
      all_goals
        go_enter Try.func58, Try.ntmps58
        go_wp2_with (go_at_call 73; refine (pick_any _ _ _ _).mono ?_; rintro e w' ⟨rfl, rfl⟩)
        refine (leafW_any f s _ _ c c' Bw _ _ vo n xs hin1 (by omega)).mono ?_
        rintro e w3 h3'
        have h3'' := h3'
        obtain ⟨vo3, rfl, hin3, ht3, hat3, hne3⟩ := h3''
        go_wp2
        go_end0
        exact out_eq (WOut.behind _ h3') (by simp [nn, Tr.size]) (by simp [nn, Tr.flat, ncells])
    · have hltB := (Array.getElem?_eq_some_iff.1 hin.1).1
      obtain ⟨p0, p1, p2, p3⟩ := cells3 hin1.1
      have hnw : ((w.alloc (.cells #[.int .i64 3, .int .i64 m] 38)).alloc (.cells #[.int .i64 3, .int .i64 m] 38)).drew.heap[w.heap.size + 1]? = some (.cells #[.int .i64 3, .int .i64 m] 38 (0, 0)) := by
        have h := heap_alloc_new (w.alloc (.cells #[.int .i64 3, .int .i64 m] 38)) (.cells #[.int .i64 3, .int .i64 m] 38)
        rw [World.size_alloc] at h
        exact h
      cases no
      · go_enter Try.func58, Try.ntmps58
        go_wp2
        go_region_law (first | (refine step_push rfl (.tmp 49) (.tmp 53) 22 rfl (Bw + 1) 38 2 16 sliceNd vo n xs (hin1.2.1.alloc _) rfl (w.heap.size + 1) #[.int .i64 3, .int .i64 m] rfl hnw rfl (by simp [Value.oneCell']) (by omega) (by omega) (by simp; omega) ?_; intro v1 w1 hown1 ht1 hat1 hne1; obtain ⟨hb1, hout⟩ := push_out hin1 hown1 (Tch.undrew ht1) hat1 hne1; obtain ⟨_, _, r2, r3⟩ := cells3 hb1; obtain ⟨g1, cap1, rfl, _⟩ := own_form hown1 (by omega)))
        all_goals
          go_wp2
          go_end0
          exact out_eq (WOut.behind _ hout) (by simp [nn, Tr.size]) (by simp [nn, Tr.flat, ncells])
      · go_enter Try.func58, Try.ntmps58
        go_wp2
        go_region_law (first | (refine step_push rfl (.tmp 49) (.tmp 53) 22 rfl (Bw + 1) 38 2 16 sliceNd vo n xs (hin1.2.1.alloc _) rfl (w.heap.size + 1) #[.int .i64 3, .int .i64 m] rfl hnw rfl (by simp [Value.oneCell']) (by omega) (by omega) (by simp; omega) ?_; intro v1 w1 hown1 ht1 hat1 hne1; obtain ⟨hb1, hout⟩ := push_out hin1 hown1 (Tch.undrew ht1) hat1 hne1; obtain ⟨_, _, r2, r3⟩ := cells3 hb1; obtain ⟨g1, cap1, rfl, _⟩ := own_form hown1 (by omega)))
        all_goals
          obtain ⟨vo2, _, hin2, ht2, hat2, _⟩ := hout
          go_wp2_with fail
          refine (leafW_any f s _ _ c c' Bw _ _ vo2 _ _ hin2 (by omega)).mono ?_
          rintro e w3 h3'
          have h3'' := h3'
          obtain ⟨vo3, rfl, hin3, ht3, hat3, hne3⟩ := h3''
          go_wp2
          go_end0
          exact out_eq (WOut.behind _ (wout_then ht2 hat2 h3')) (by simp [nn, Tr.size]) (by simp [nn, Tr.flat, ncells])
  | un x a iha =>
    intro b hok hat no k w vo n xs hk hin hn
    obtain ⟨hx, hsx⟩ := at_root hat hk
    have hkl : k < f.length := (List.getElem?_eq_some_iff.1 hx).1
    have hfk : f[k] = x := by rw [List.getElem?_eq_getElem hkl] at hx; simpa [Tr.root] using hx
    obtain ⟨h0, hoka⟩ := hok
    obtain ⟨kl, hkl1⟩ : ∃ kl, kl + 1 = b + a.size := ⟨b + a.size - 1, by have := a.size_pos; omega⟩
    simp only [Tr.size] at hk hn
    have hkk1 : k = kl + 1 := by omega
    have hkk : (k : Int) - 1 = (kl : Int) := by omega
    have HKK := Lib.hid hkk
    have HK1 := Lib.hid hkk1
    have hk9 : k ≤ 1000000000 := by omega
    have hk8 : 1 ≤ k := by omega
    have hkl9 : kl < 1000000000 := by omega
    have hps := iha b hoka hat.1
    obtain ⟨b0, o0, rfl, _, hc0, hc1⟩ := rd_nd hin.2.2.1.rd hkl
    rw [hfk] at hc0 hc1
    obtain ⟨q0, q1, q2, q3⟩ := cells3 hin.1
    obtain ⟨op, m⟩ := x
    dsimp only at *
    have hin1 := hin.alloc (.cells #[.int .i64 op, .int .i64 m] 38)
    have HPS := Lib.hid hps
    clear hx hsx hfk iha hps hat hkk hkk1 hk
    rcases takes_one h0 with rfl | rfl | rfl | rfl
    · cases no
      all_goals
        go_enter Try.func58, Try.ntmps58
        go_wp2_with fail
        rw [HKK.out]
        refine (HPS.out _ kl _ vo n xs hkl1 hin1 (by omega)).mono ?_
        rintro e w3 h3'
        have h3'' := h3'
        obtain ⟨vo3, rfl, hin3, ht3, hat3, hne3⟩ := h3''
        go_wp2
        go_end0
        exact out_eq (WOut.behind _ h3') (by simp [nn]) (by simp [nn])
    · cases no
      all_goals
        go_enter Try.func58, Try.ntmps58
        go_wp2_with fail
        rw [HKK.out]
        refine (HPS.out _ kl _ vo n xs hkl1 hin1 (by omega)).mono ?_
        rintro e w3 h3'
        have h3'' := h3'
        obtain ⟨vo3, rfl, hin3, ht3, hat3, hne3⟩ := h3''
        have hsa := nn_size a true
        have hsb := nn_size a false
        go_wp2_with fail
        refine (leafW_any f s _ _ c c' Bw _ _ vo3 _ _ hin3 (by simp only [Bool.not_true, Bool.not_false]; omega)).mono ?_
        rintro e w4 h4'
        have h4'' := h4'
        obtain ⟨vo4, rfl, hin4, ht4, hat4, hne4⟩ := h4''
        go_wp2
        go_end0
        refine out_eq (WOut.behind _ (wout_then ht3 hat3 h4')) (by simp [nn, Tr.size]) (by simp [nn, Tr.flat, ncells])
    all_goals
      cases no
      all_goals
        go_enter Try.func58, Try.ntmps58
        go_wp2_with fail
        refine (ever_any a b kl k HK1.out _ _ HPS.out hkl1 (by omega) _ vo n xs hin1 (by omega)).mono ?_
        rintro e w3 h3'
        have h3'' := h3'
        obtain ⟨vo3, rfl, hin3, ht3, hat3, hne3⟩ := h3''
        go_wp2
        go_end0
        exact out_eq (WOut.behind _ h3') (by simp [nn, Tr.size]; omega) (by simp [nn, Tr.flat, ncells])
  | bin x a d iha ihd =>
    intro b hok hat no k w vo n xs hk hin hn
    obtain ⟨hx, hsx⟩ := at_root hat hk
    have hkl : k < f.length := (List.getElem?_eq_some_iff.1 hx).1
    have hfk : f[k] = x := by rw [List.getElem?_eq_getElem hkl] at hx; simpa [Tr.root] using hx
    obtain ⟨h0, hoka, hokd⟩ := hok
    obtain ⟨kl, hkl1⟩ : ∃ kl, kl + 1 = b + a.size := ⟨b + a.size - 1, by have := a.size_pos; omega⟩
    obtain ⟨kr, hkr1⟩ : ∃ kr, kr + 1 = (b + a.size) + d.size := ⟨b + a.size + d.size - 1, by have := d.size_pos; omega⟩
    simp only [Tr.size] at hk hn
    have hkk1 : k = kr + 1 := by omega
    have HK1 := Lib.hid hkk1
    have hk9 : k ≤ 1000000000 := by omega
    have hk8 : 1 ≤ k := by omega
    have hkr9 : kr < 1000000000 := by omega
    have hskr := (at_root hat.2.1 hkr1).2
    rw [show ((b + a.size : Nat) : Int) = (kl : Int) + 1 by omega] at hskr
    have hpa := iha b hoka hat.1
    have hpd := ihd (b + a.size) hokd hat.2.1
    obtain ⟨b0, o0, rfl, _, hc0, hc1⟩ := rd_nd hin.2.2.1.rd hkl
    rw [hfk] at hc0 hc1
    obtain ⟨q0, q1, q2, q3⟩ := cells3 hin.1
    obtain ⟨op, m⟩ := x
    dsimp only at *
    have hin1 := hin.alloc (.cells #[.int .i64 op, .int .i64 m] 38)
    have HPA := Lib.hid hpa
    have HPD := Lib.hid hpd
    have HSK := Lib.hid hskr
    clear hx hsx hfk iha ihd hpa hpd hat hskr hkk1 hk
    rcases takes_two h0 with rfl | rfl | rfl | rfl | rfl
    all_goals
      cases no
      all_goals
        go_enter Try.func58, Try.ntmps58
        go_wp2_with (go_at_call 73; refine (pick_any _ _ _ _).mono ?_; rintro e w' ⟨rfl, rfl⟩)
        refine (both_any a d b kl kr k HK1.out _ _ _ hl HPA.out HPD.out hkl1 hkr1 HSK.out (by omega) _ vo n xs hin1 (by omega)).mono ?_
        rintro e w3 h3'
        have h3'' := h3'
        obtain ⟨vo3, rfl, hin3, ht3, hat3, hne3⟩ := h3''
        go_wp2
        go_end0
        exact out_eq (WOut.behind _ h3') (by simp [nn, Tr.size]; omega) (by simp [nn, Tr.flat, ncells])
end
end Go.Proofs.Ytedohmcnjlhdnaa
