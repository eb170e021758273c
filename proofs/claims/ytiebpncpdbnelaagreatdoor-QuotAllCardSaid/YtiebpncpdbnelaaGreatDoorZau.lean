/- Texts that stand one behind the other, in one file. -/
import Derived.Test.YtiebpncpdbnelaaGreatDoorZat
set_option maxHeartbeats 2000000
set_option maxRecDepth 100000
namespace Go.Proofs.YtiebpncpdbnelaaGreatDoor
def ANd.put (x : ANd) (l : List Int) : ANd := ⟨x.need, x.ban, x.inn, l⟩
def canB (x : ANd) : Bool := decide (x.need &&& x.ban = 0)
def openR (a : Aut) (q : Nat) : List Nd := ((a.at q).to.filter (fun t => canB (a.at q) && canB (a.at t.toNat))).map (fun t => ⟨t, 0⟩)
def openE (a : Aut) : List (List Nd) := (List.range a.nodes.length).map (openR a)
def openI (a : Aut) : List Int := a.init.filter (fun t => canB (a.at t.toNat))
def insA (a : Aut) : List Nat := a.nodes.map (·.inn)
def Aut.zero : Aut := ⟨0, [], []⟩
theorem openE_len (a : Aut) : (openE a).length = a.nodes.length := by simp [openE]
theorem insA_at {a : Aut} (q : Nat) : (insA a).getD q 0 = (a.at q).inn := by
 unfold insA Aut.at
 by_cases h : q < a.nodes.length
 ·simp [List.getD, h]
 ·simp [List.getD, List.getElem?_eq_none (by omega : a.nodes.length ≤ q), ANd.none]
theorem at_mem {a : Aut} {q : Nat} (hq : q < a.nodes.length) : a.at q ∈ a.nodes := by
 unfold Aut.at; rw [gD, gE hq]; exact mM hq
theorem Aut.Ok.to {a : Aut} (h : a.Ok) {q : Nat} (hq : q < a.nodes.length) {t : Int} (ht : t ∈ (a.at q).to) : ∃ k : Nat, t = k ∧ k < a.nodes.length := isNd_nat (h.2 _ (at_mem hq) t ht)
theorem Aut.Ok.first {a : Aut} (h : a.Ok) {t : Int} (ht : t ∈ a.init) : ∃ k : Nat, t = k ∧ k < a.nodes.length := isNd_nat (h.1 t ht)
def UseP (a : Aut) (q : Nat) : Prop := Rch a.nodes.length (openE a) (openI a) (q : Int) ∧ Runs (openE a) (asksI (insA a) a.sets.toNat) q
noncomputable def useL (a : Aut) : List Bool := marksP a.nodes.length (UseP a)
def numC (u : List Bool) (n : Nat) : Nat := ((List.range n).filter (fun i => u.getD i false)).length
def keptL (u : List Bool) (l : List Int) : List Int := (l.filter (fun t => u.getD t.toNat false)).map (fun t => ((numC u t.toNat : Nat) : Int))
def trimU (a : Aut) (u : List Bool) : Aut := ⟨a.sets, keptL u a.init, ((List.range a.nodes.length).filter (fun i => u.getD i false)).map (fun i => (a.at i).put (keptL u (a.at i).to))⟩
noncomputable def trimA (a : Aut) : Aut := trimU a (useL a)
noncomputable def trimF (a : Aut) : Aut := if chkA a = 0 then trimA a else Aut.zero
section
variable {u : List Bool}
theorem numC_succ (n : Nat) : numC u (n + 1) = numC u n + (if u.getD n false = true then 1 else 0) := by
 unfold numC
 rw [List.range_succ, List.filter_append, lA]
 congr 1
 rw [List.filter_cons, List.filter_nil]
 split <;> simp
theorem kept_at : ∀ {n i : Nat}, i < n → u.getD i false = true → ((List.range n).filter (fun i => u.getD i false))[numC u i]? = some i
 | 0, _, hi, _ => by omega
 | n + 1, i, hi, hu => by
  rw [List.range_succ, List.filter_append]
  by_cases e : i = n
  ·subst e
   rw [gR (by unfold numC; exact lR), numC, Nat.sub_self, List.filter_cons, if_pos hu]
   rfl
  ·have h := kept_at (n := n) (by omega) hu
   rw [gC (gB.1 h).1]
   exact h
theorem numC_lt {n i : Nat} (hi : i < n) (hu : u.getD i false = true) : numC u i < numC u n := (gB.1 (kept_at hi hu)).1
theorem keptL_snoc {l : List Int} {i : Nat} (hi : i < l.length) : keptL u (l.take (i + 1)) = keptL u (l.take i) ++ (if u.getD l[i].toNat false = true then [((numC u l[i].toNat : Nat) : Int)] else []) := by
 unfold keptL
 rw [take_snoc l i hi, List.filter_append, List.map_append]
 congr 1
 rw [List.filter_cons, List.filter_nil]
 split <;> simp
theorem keptL_le {l : List Int} : (keptL u l).length ≤ l.length := by
 unfold keptL
 rw [List.length_map]; exact List.length_filter_le _ _
theorem trimU_len (a : Aut) (u : List Bool) : (trimU a u).nodes.length = numC u a.nodes.length := by simp [trimU, numC]
theorem numC_true {n : Nat} (h : ∀ i, i < n → u.getD i false = true) : numC u n = n := by
 induction n with
 | zero => simp [numC]
 | succ n ih => rw [numC_succ, ih (fun i hi => h i (by omega)), if_pos (h n (by omega))]
theorem numC_le (n : Nat) : numC u n ≤ n := by
 have := List.length_filter_le (fun i => u.getD i false) (List.range n)
 rw [List.length_range] at this
 exact this
end
section
variable {a : Aut} {W : List Nat} {lp : Nat}
theorem use_iff {q : Nat} (hq : q < a.nodes.length) : (useL a).getD q false = true ↔ UseP a q := marksP_at hq
theorem use_lt {q : Nat} (h : (useL a).getD q false = true) : q < a.nodes.length := by
 have := getD_lt h
 unfold useL at this
 rwa [marksP_len] at this
theorem use_uniq {u : List Bool} (hl : u.length = a.nodes.length) (h : ∀ q, q < a.nodes.length → (u.getD q false = true ↔ UseP a q)) : u = useL a := by
 have hl' : (useL a).length = a.nodes.length := marksP_len _ _
 exact sub_anti (by rw [hl, hl']) (fun i hi => (use_iff (by have := getD_lt hi; omega)).2 ((h i (by have := getD_lt hi; omega)).1 hi))
  (fun i hi => (h i (use_lt hi)).2 ((use_iff (use_lt hi)).1 hi))
theorem trim_ok (hA : a.Ok) (u : List Bool) : (trimU a u).Ok := by
 have key : ∀ l : List Int, (∀ t ∈ l, ∃ k : Nat, t = k ∧ k < a.nodes.length) → ∀ t ∈ keptL u l, isNd (trimU a u).nodes.length t = true := by
  intro l hl t ht
  unfold keptL at ht
  obtain ⟨x, hx, rfl⟩ := List.mem_map.1 ht
  obtain ⟨h1, h2⟩ := List.mem_filter.1 hx
  obtain ⟨k, rfl, hk⟩ := hl x h1
  rw [tN] at h2 ⊢
  have := numC_lt hk h2
  rw [trimU_len]
  exact isNd_iff.2 ⟨by omega, by omega⟩
 refine ⟨key _ (fun t ht => hA.first ht), fun x hx => ?_⟩
 obtain ⟨i, hi, rfl⟩ := List.mem_map.1 hx
 have hi' := List.mem_range.1 (List.mem_filter.1 hi).1
 exact key _ (fun t ht => hA.to hi' ht)
theorem trim_chk (_h : chkA a = 0) (hin : ∀ x ∈ a.nodes, x.inn < 2 ^ a.sets.toNat) (h256 : a.nodes.length ≤ 256 ∧ 0 ≤ a.sets ∧ a.sets ≤ 16) (hA : a.Ok) (u : List Bool) : chkA (trimU a u) = 0 ∧ ∀ x ∈ (trimU a u).nodes, x.inn < 2 ^ (trimU a u).sets.toNat := by
 have h2 : ∀ x ∈ (trimU a u).nodes, x.inn < 2 ^ (trimU a u).sets.toNat := by
  intro x hx
  obtain ⟨i, hi, rfl⟩ := List.mem_map.1 hx
  have hi' := List.mem_range.1 (List.mem_filter.1 hi).1
  exact hin (a.at i) (at_mem hi')
 refine ⟨chkA_zero ?_ h256.2 (trim_ok hA u) h2, h2⟩
 rw [trimU_len]
 have := numC_le (u := u) a.nodes.length
 omega
theorem keptL_true {u : List Bool} {n : Nat} (hu : ∀ i, i < n → u.getD i false = true) {l : List Int} (hl : ∀ t ∈ l, ∃ k : Nat, t = k ∧ k < n) : keptL u l = l := by
 unfold keptL
 rw [List.filter_eq_self.2 (fun t ht => by obtain ⟨k, rfl, hk⟩ := hl t ht; rw [tN]; exact hu k hk)]
 conv => rhs; rw [← List.map_id l]
 refine List.map_congr_left (fun t ht => ?_)
 obtain ⟨k, rfl, hk⟩ := hl t ht
 rw [tN, numC_true (fun i hi => hu i (by omega))]
 rfl
theorem trimU_true (hA : a.Ok) {u : List Bool} (hu : ∀ i, i < a.nodes.length → u.getD i false = true) : trimU a u = a := by
 obtain ⟨s, i, ns⟩ := a
 unfold trimU
 rw [keptL_true hu (fun t ht => hA.first ht)]
 congr 1
 refine List.ext_getElem ?_ (fun k h1 h2 => ?_)
 ·have := numC_true (u := u) (n := ns.length) hu
  unfold numC at this
  rw [List.length_map]
  exact this
 ·have hk := kept_at (u := u) h2 (hu k h2)
  rw [numC_true (fun i hi => hu i (Nat.lt_trans hi h2))] at hk
  have hk2 : ((List.range ns.length).filter (fun i => u.getD i false))[k]'(by simpa using h1) = k := (gB.1 hk).2
  rw [List.getElem_map]
  dsimp only
  rw [hk2]
  have hat : (Aut.mk s i ns).at k = ns[k] := by simp [Aut.at, List.getD, h2]
  have := keptL_true hu (l := ((Aut.mk s i ns).at k).to) (fun t ht => hA.to h2 ht)
  rw [this, hat]; rfl
end
end Go.Proofs.YtiebpncpdbnelaaGreatDoor
namespace Go.Proofs.YtiebpncpdbnelaaGreatDoor
open Go.RowKit
theorem and_u64N {x y : Nat} (hx : x < 2 ^ 64) (hy : y < 2 ^ 64) : bits .and .u64 (x : Int) (y : Int) = ((x &&& y : Nat) : Int) := by
 have hor : x &&& y < 2 ^ 64 := Nat.and_lt_two_pow _ hy
 show IntKind.u64.wrap ((BitVec.ofInt 64 (x : Int) &&& BitVec.ofInt 64 (y : Int)).toNat : Int) = _
 rw [BitVec.toNat_and, BitVec.ofInt_natCast, BitVec.toNat_ofNat, BitVec.ofInt_natCast, BitVec.toNat_ofNat, Nat.mod_eq_of_lt hx, Nat.mod_eq_of_lt hy, IntKind.wrap_u64]
 omega
theorem every_any (vi vn : Value) (s : Nat) (w : World) (hs : s ≤ 16) : Calls Tryz.prog 47 #[.agg #[.int .i64 (s : Int), vi, vn]] w (NumU w ((allB s : Nat) : Int)) := by
 have hb0 : Below w.1.size w (w.alloc (.cells #[.int .i64 (s : Int), vi, vn] 25)) := bR.alloc lR _
 have hx0 := heap_alloc_new w (.cells #[.int .i64 (s : Int), vi, vn] 25)
 obtain ⟨W0, hW0⟩ := xQ (w.alloc (.cells #[.int .i64 (s : Int), vi, vn] 25))
 rw [hW0] at hb0 hx0
 obtain ⟨k0, k1, k2⟩ := box3A hx0
 have hs0 : (0 : Int) ≤ (s : Int) := by omega
 go_enter Tryz.func47, Tryz.ntmps47
 go_upto_region 1 with fail
 go_wp2_with fail
 go_ret
 refine ⟨ret_int ?_, hb0⟩
 have h1 : ((2 : Int) ^ s) = ((2 ^ s : Nat) : Int) := by simp
 have h2 : 2 ^ s ≤ 2 ^ 16 := Nat.pow_le_pow_right (by decide) hs
 have h3 : 1 ≤ 2 ^ s := Nat.one_le_two_pow
 unfold allB
 rw [h1]
 generalize 2 ^ s = m at *
 rw [IntKind.wrap_u64, IntKind.wrap_u64]
 omega
theorem can_any (a : Aut) (Ai : Option Addr) (ni ci : Nat) (An : Option Addr) (nn cn : Nat) (w : World) (B ab q : Nat) (h : AutRd w B a Ai ni ci An nn cn) (hab : w.cell? ⟨ab, 2, none⟩ = some (.slice An nn cn)) (hq : q < nn) (hnd : ∀ x ∈ a.nodes, x.need < 2 ^ 64 ∧ x.ban < 2 ^ 64) :
  Calls Tryz.prog 48 #[.int .i64 (q : Int), .pointer (some ⟨ab, 0, none⟩)] w (Tru w (canB (a.at q))) := by
 obtain ⟨b, o, x, At, ct, hAn, hbl, hx, c0, c1, c2, c3, hst⟩ := rd_aut h hq
 subst hAn
 have hxe : a.at q = x := by unfold Aut.at; rw [gD, hx]; rfl
 rw [hxe]
 obtain ⟨hn1, hn2⟩ := hnd x (List.mem_of_getElem? hx)
 have hq0 : (0 : Int) ≤ (q : Int) := by omega
 have hq1 : (q : Int) < (nn : Int) := by omega
 have hand := and_u64N hn1 hn2
 have hb := bel_drew (Below.refl w.1.size w)
 clear h hst hx hxe c2 c3 hnd
 cases hz : canB x
 ·have hz' : ((x.need &&& x.ban : Nat) : Int) ≠ 0 := by
   unfold canB at hz
   have := of_decide_eq_false hz
   omega
  have hz2 : (((x.need &&& x.ban : Nat) : Int) == 0) = false := beq_eq_false_iff_ne.2 hz'
  generalize x.need &&& x.ban = m at *
  go_enter Tryz.func48, Tryz.ntmps48
  go_wp2_with fail
  refine wp_region_held_drew (S := fun w' => w'.cell? ⟨ab, 2, none⟩ = some (.slice (some ⟨b, o, none⟩) nn cn) ∧ w'.cell? ⟨b, o + q * 4, none⟩ = some (.int .u64 (x.need : Int)) ∧ w'.cell? ⟨b, o + q * 4 + 1, none⟩ = some (.int .u64 (x.ban : Int))) (by kernel_rfl) ⟨hab, c0, c1⟩ (fun hS => ?_)
  refine tkH 0 ?_
  refine tkH 1 ?_
  refine tkH 2 ?_
  refine tkH 3 ?_
  refine tkH 4 ?_
  refine tkH 5 ?_
  refine tkH 6 ?_
  refine tkH 7 ?_
  refine tkH 8 ?_
  refine tkH 9 ?_
  refine tkH 10 ?_
  refine tkH 11 ?_
  refine tkH 12 ?_
  refine tkH 13 ?_
  refine tkH 14 ?_
  refine wpAnyH_done (by kernel_rfl) ?_ _
  go_wp2_with fail
  go_ret
  exact ⟨rfl, hb⟩
 ·have hz' : ((x.need &&& x.ban : Nat) : Int) = 0 := by
   unfold canB at hz
   have := of_decide_eq_true hz
   omega
  have hz2 : (((x.need &&& x.ban : Nat) : Int) == 0) = true := by rw [hz']; rfl
  generalize x.need &&& x.ban = m at *
  go_enter Tryz.func48, Tryz.ntmps48
  go_wp2_with fail
  refine wp_region_held_drew (S := fun w' => w'.cell? ⟨ab, 2, none⟩ = some (.slice (some ⟨b, o, none⟩) nn cn) ∧ w'.cell? ⟨b, o + q * 4, none⟩ = some (.int .u64 (x.need : Int)) ∧ w'.cell? ⟨b, o + q * 4 + 1, none⟩ = some (.int .u64 (x.ban : Int))) (by kernel_rfl) ⟨hab, c0, c1⟩ (fun hS => ?_)
  refine tkH 0 ?_
  refine tkH 1 ?_
  refine tkH 2 ?_
  refine tkH 3 ?_
  refine tkH 4 ?_
  refine tkH 5 ?_
  refine tkH 6 ?_
  refine tkH 7 ?_
  refine tkH 8 ?_
  refine tkH 9 ?_
  refine tkH 10 ?_
  refine tkH 11 ?_
  refine tkH 12 ?_
  refine tkH 13 ?_
  refine tkH 14 ?_
  refine wpAnyH_done (by kernel_rfl) ?_ _
  go_wp2_with fail
  go_ret
  exact ⟨rfl, hb⟩
end Go.Proofs.YtiebpncpdbnelaaGreatDoor
