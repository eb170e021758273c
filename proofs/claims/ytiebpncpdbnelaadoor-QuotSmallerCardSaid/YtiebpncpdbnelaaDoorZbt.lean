/- Texts that stand one behind the other, in one file. -/
import Derived.Test.YtiebpncpdbnelaaDoorQu3
set_option maxHeartbeats 8000000
set_option maxRecDepth 100000
namespace Go.Proofs.YtiebpncpdbnelaaDoor
open Go.RowKit Go.Maps
theorem change_any (f : Nat → Nat) (N : Nat) (l : List Int) (A : Option Addr) (n c nb mb nm : Nat) (g : Lit → Option Value) (w : World) (B : Nat) (hs : Sl w B 1 A n c (icells l)) (hB : B ≤ w.1.size) (hn : n = l.length) (hnl : n ≤ 1000000) (hnb : w.cell? ⟨nb, 0, none⟩ = some (.map (some mb))) (hnb2 : nb < w.1.size) (hg : GMap w 3 mb nm g) (hgf : ∀ q, q < N → g (.int .i64 (q : Int)) = some (.int .i64 (f q : Int))) (hf : ∀ q, q < N → f q ≤ 1000000) (hN : N ≤ 1000000) (hl : ∀ t ∈ l, isNd N t = true) :
  Calls Tryd.prog 40 #[.slice A n c, .pointer (some ⟨nb, 0, none⟩)] w (IntsPost w (onceI f l)) := by
 have hb0 : Below w.1.size w (w.alloc (.map #[] 0)) := bR.alloc lR _
 have x0 := heap_alloc_new w (.map #[] 0)
 have z0 : (w.alloc (.map #[] 0)).1.size = w.1.size + 1 := by simp
 obtain ⟨W0, hW0⟩ := xQ (w.alloc (.map #[] 0))
 rw [hW0] at hb0 x0 z0
 have HW0 := dh hW0
 have HB0 := dh hb0
 have HS0 := dh (hs.below hb0 hB)
 have HT0 : Hid (IMap W0 w.1.size []) := dh (IMap.of_blk x0)
 have HG := dh hg
 have HNB := dh hnb
 have HL := dh hl
 have HGF := dh hgf
 have HF := dh hf
 have hmk := run_makeMap (P := Tryd.prog) 55
 have hBw : B ≤ W0.1.size := by omega
 have hww : w.1.size < W0.1.size := by omega
 have hmb := hg.lt
 have HZ0 := dh z0
 have hcc := hs.cap
 have hmm := hs.max
 unfold maxLen at hmm
 subst hn
 clear hW0 hb0 x0 hs hg hl hgf hnb hf z0
 go_enter Tryd.func40, Tryd.ntmps40
 go_upto_region 3 with fail
 rw [HW0.out]
 clear hmk
 go_wp2_with fail
 go_loopw [4, 12] (fun v i wr => ∃ (k : Nat) (out : List Int), k ≤ l.length ∧ i = .int .i64 (k : Int) ∧ out = onceI f (l.take k) ∧ Hid (wr.ownsRow W0.1.size 3 1 v out.length (icells out)) ∧ Hid (IMap wr w.1.size out) ∧ Hid (Below w.1.size w wr)) (fun _ i _ => l.length - (intOf i).toNat)
 case atStart => exact ⟨0, [], by omega, rfl, rfl, dh (World.ownsRow_nil _ _ _ _), HT0, HB0⟩
 case round =>
  obtain ⟨k, out, hk, rfl, hout, HO, HT, HB⟩ := hrel
  have hzr := HB.out.size
  have hol : out.length ≤ k := by rw [hout]; exact Nat.le_trans (onceI_le _ _) (by rw [List.length_take]; omega)
  by_cases hlt : k < l.length
  ·have HSN := dh (onceI_snoc f (l.take k) l[k])
   rw [← take_snoc l k hlt, ← hout] at HSN
   obtain ⟨tn, htn, htl⟩ := isNd_nat (HL.out _ (mM hlt))
   obtain ⟨bb, o, rfl, hbb, hc0⟩ := (HS0.out.rd.below (B' := W0.1.size) (w' := W0) bR hBw).at_ (j := k) (icells_at hlt)
   have hbw : bb < w.1.size := by omega
   have hc0 : wr.cell? ⟨bb, o + k, none⟩ = some (.int .i64 (tn : Int)) := by
    rw [← htn]
    have h1 := HB0.out.cell (p := ⟨bb, o + k, none⟩) hbw
    have h2 := HB.out.cell (p := ⟨bb, o + k, none⟩) hbw
    rw [h2, ← h1]; exact hc0
   rw [htn, tN] at HSN
   have wk : IntKind.i64.wrap ((k : Int) + 1) = (k : Int) + 1 := by rw [wI]; omega
   have hk0 : (0 : Int) ≤ (k : Int) := by omega
   have hk1 : (k : Int) < (l.length : Int) := by omega
   have hnb := bC HB.out hnb2 HNB.out
   have hlook := mapI_look (HG.out.blk (HB.out.block mb hmb)) (tn : Int) (by omega) false
   rw [HGF.out tn htl] at hlook
   simp only [Option.getD_some, Bool.false_eq_true, if_false] at hlook
   have hft := HF.out tn htl
   generalize f tn = x at *
   have hthere := HT.out.lookup (x := (x : Int)) (by omega)
   obtain ⟨Av, cv, rfl, -⟩ := own_sl HO.out
   by_cases hm : (x : Int) ∈ out
   ·rw [decide_eq_true hm] at hthere
    have HS2 : Hid (onceI f (l.take (k + 1)) = out) := dh (by rw [HSN.out, if_pos hm])
    clear hm htn hout
    go_wp2_with fail
    go_roundw
    case rel => exact ⟨k + 1, out, by omega, congrArg (Value.int .i64) (by omega), HS2.out.symm, HO, HT, HB⟩
    case measure => simp [intOf]; omega
   ·rw [decide_eq_false hm] at hthere
    have HS2 : Hid (onceI f (l.take (k + 1)) = out ++ [(x : Int)]) := dh (by rw [HSN.out, if_neg hm])
    obtain ⟨w1, hup, hT1, hgr⟩ := HT.out.update (x := (x : Int)) (by omega) (by omega)
    have HT1 := dh hT1
    have HB1 : Hid (Below w.1.size w w1) := dh (HB.out.grown hgr hzr (fun j hj => by cases hj; exact lR))
    have HO1 : Hid (w1.ownsRow W0.1.size 3 1 (.slice Av out.length cv) out.length (icells out)) := dh (own_tch HO.out ((Tch.refl (fun q => q = w.1.size) wr).grown hgr (fun q e _ => (Option.some.inj e).symm)) (fun g hg e => by
     have e : g = w.1.size := e
     have := (HO.out.lt g hg).1
     omega))
    have hz1 := HB1.out.size
    have hz2 : wr.1.size ≤ w1.1.size := hgr.size
    have hzw : W0.1.size ≤ w1.1.size := by have := HT1.out.lt; have := HZ0.out; omega
    have hnw := dh (heap_alloc_new w1 (.cells #[.int .i64 (x : Int)] 3))
    clear hm htn hT1 hgr hout
    go_wp2_with (at_builtin; refine wpList_push rfl (.tmp 25) (.tmp 27) 22 rfl W0.1.size 3 1 8 sliceInt _ _ _ (HO1.out.alloc _) rfl w1.1.size #[.int .i64 (x : Int)] rfl hnw.out rfl (by simp [Value.oneCell']) (by omega) (by omega) (by simp; omega) ?_; intro u' wA hown3 ht3 hat3 hne3; have HOA := dh hown3; have HTT := dh (Tch.trans ((Tch.refl _ w1).alloc _) ht3 (fun _ _ h => h)))
    have HBA := dh (HB1.out.trans (HTT.out.below hz1 (fun q hq e => by have := (HO1.out.lt q e).1; omega)))
    have HTA := dh (HT1.out.keep HTT.out (fun e => by have := (HO1.out.lt _ e).1; omega))
    go_roundw
    case rel => exact ⟨k + 1, out ++ [(x : Int)], by omega, congrArg (Value.int .i64) (by omega), HS2.out.symm, dh (by rw [lA, icells_append]; exact HOA.out), HTA, HBA⟩
    case measure => simp [intOf]; omega
  ·have hkn : k = l.length := by omega
   have HFI : Hid (wr.ownsRow W0.1.size 3 1 _ (onceI f l).length (icells (onceI f l))) := dh (by have := HO.out; rw [hout, hkn, tL lR] at this; exact this)
   have hle : ¬ (k : Int) < (l.length : Int) := by omega
   clear hkn HO hout
   go_wp2_with fail
   go_ret
   exact ⟨_, rfl, own_base HFI.out (Nat.le_of_lt hww), HB.out⟩
end Go.Proofs.YtiebpncpdbnelaaDoor
namespace Go.Proofs.YtiebpncpdbnelaaDoor
open Go.RowKit Go.Maps
def plainB (x y : ANd) : Bool := decide (x.need = y.need) && (decide (x.ban = y.ban) && decide (x.inn = y.inn))
theorem plain_eql (x y : ANd) (w : World) : (binOp .eql 52 (.agg #[.int .u64 (x.need : Int), .int .u64 (x.ban : Int), .int .u64 (x.inn : Int)]) (.agg #[.int .u64 (y.need : Int), .int .u64 (y.ban : Int), .int .u64 (y.inn : Int)])).run Tryd.prog w = .ok (.bool (plainB x y)) w := by
 have h1 : Tryd.prog.underlying 52 = some (.struct (Tryd.prog.fieldsOf 52)) := by kernel_rfl
 have h2 : Tryd.prog.stoodInHeld 52 = false := by kernel_rfl
 rw [run_eql_struct, run_equalIn_agg w 9999 _ _ _ h1 h2]
 clear h1 h2
 unfold plainB
 go_simp
 by_cases h1 : x.need = y.need <;> by_cases h2 : x.ban = y.ban <;> by_cases h3 : x.inn = y.inn <;> simp [h1, h2, h3, Int.ofNat_inj]
theorem sub_both {x y : Nat} (h : ∀ b, x.testBit b = true → y.testBit b = true) (k : ∀ b, y.testBit b = true → x.testBit b = true) : x = y := by
 refine Nat.eq_of_testBit_eq (fun b => ?_)
 cases hx : x.testBit b <;> cases hy : y.testBit b
 ·rfl
 ·rw [k b hy] at hx; cases hx
 ·rw [h b hx] at hy; cases hy
 ·rfl
theorem like_plain {a : Aut} (h : GoodA a) {i k : Nat} (h1 : relL (simL a) i k = true) (h2 : relL (simL a) k i = true) : plainB (a.at k) (a.at i) = true := by
 have s1 := sim_rel.1 h1
 have s2 := sim_rel.1 h2
 obtain ⟨hi, hk⟩ := (sim_sim a).lt i k s1
 obtain ⟨a1, a2, a3⟩ := alone_iff.1 ((sim_sim a).one i k s1)
 obtain ⟨b1, b2, b3⟩ := alone_iff.1 ((sim_sim a).one k i s2)
 have hin : ∀ q, q < a.nodes.length → ∀ b, (a.at q).inn.testBit b = true → b < a.sets.toNat := fun q hq b hb => by
  refine Nat.lt_of_not_le (fun hl => ?_)
  rw [Nat.testBit_lt_two_pow (Nat.lt_of_lt_of_le (h.inn _ (at_mem hq)) (Nat.pow_le_pow_right (by omega) hl))] at hb
  cases hb
 unfold plainB
 rw [Bool.and_eq_true, Bool.and_eq_true, decide_eq_true_eq, decide_eq_true_eq, decide_eq_true_eq]
 exact ⟨sub_both a1 b1, sub_both a2 b2, sub_both (fun b hb => b3 b (hin k hk b hb) hb) (fun b hb => a3 b (hin i hi b hb) hb)⟩
theorem rd_relB {w : World} {B : Nat} {A : Option Addr} {n c : Nat} {R : List (List Bool)} (h : Sl2 w B 1 A n c (R.map bcells)) (hq : ∀ r ∈ R, r.length = R.length) {i : Nat} (hi : i < R.length) :
  ∃ b o A' c', A = some ⟨b, o, none⟩ ∧ w.cell? ⟨b, o + i, none⟩ = some (.slice A' R.length c') ∧ R.length ≤ c' ∧ c' ≤ maxLen ∧ b < B ∧ ∃ b' o', A' = some ⟨b', o', none⟩ ∧ b' < B ∧ ∀ k, k < R.length → w.cell? ⟨b', o' + k, none⟩ = some (.bool (relL R i k)) := by
 obtain ⟨b, o, A', n', c', h1, hb, h2, h3⟩ := h.at_ (j := i) (ys := bcells R[i]) (by simp [hi])
 obtain ⟨b1, o1, A1, c1, e1, e2, e3, e4, b2, o2, e5, e6⟩ := rd_rel h hq hi
 rw [h1] at e1
 cases e1
 rw [h2] at e2
 cases e2
 subst e5
 obtain ⟨b3, o3, e7, h4, -⟩ := h3.rd.at_ (j := 0) (by
  have e : (bcells R[i])[0]? = some (.bool (R[i].getD 0 false)) := bcells'_at (by rw [hq _ (mM hi)]; omega)
  exact e)
 cases e7
 exact ⟨b, o, _, c', h1, h2, e3, e4, hb, b2, o2, rfl, h4, e6⟩
noncomputable def leadU (a : Aut) (i : Nat) : List Nat := (List.range i).filter (fun q => (leadL (simL a) a.nodes.length).getD q false)
theorem leadU_snoc (a : Aut) (i : Nat) : leadU a (i + 1) = leadU a i ++ (if (leadL (simL a) a.nodes.length).getD i false = true then [i] else []) := by
 unfold leadU
 rw [List.range_succ, List.filter_append]
 congr 1
 rw [List.filter_cons, List.filter_nil]
theorem leadU_le (a : Aut) (i : Nat) : (leadU a i).length ≤ i := by
 unfold leadU
 have := List.length_filter_le (fun q => (leadL (simL a) a.nodes.length).getD q false) (List.range i)
 rwa [List.length_range] at this
theorem leadU_lt {a : Aut} {i q : Nat} (h : q ∈ leadU a i) : q < i := List.mem_range.1 (List.mem_filter.1 h).1
def NumG (a : Aut) (i : Nat) (g : Lit → Option Value) : Prop := ∀ q, q < i → g (.int .i64 (q : Int)) = some (.int .i64 (numM (simL a) a.nodes.length q : Int))
theorem NumG.put {a : Aut} {i : Nat} {g g' : Lit → Option Value} (h : NumG a i g) (hp : PutG g g' (.int .i64 (i : Int)) (.int .i64 (numM (simL a) a.nodes.length i : Int))) : NumG a (i + 1) g' := fun q hq => by
 by_cases e : q = i
 ·subst e; exact hp.1
 ·rw [hp.2 _ (fun h => e (by injection h with _ h; omega))]
  exact h q (by omega)
theorem num_lead {a : Aut} {i : Nat} (h : likeF (simL a) i = i) : numM (simL a) a.nodes.length i = (leadU a i).length := by
 unfold numM; rw [h]; rfl
theorem num_like {a : Aut} (hA : a.Ok) {i : Nat} (hi : i < a.nodes.length) : numM (simL a) a.nodes.length (likeF (simL a) i) = numM (simL a) a.nodes.length i := by
 unfold numM; rw [like_like hA hi]
theorem num_le (a : Aut) {i : Nat} (hi : i < a.nodes.length) : numM (simL a) a.nodes.length i ≤ a.nodes.length := by
 unfold numM
 exact Nat.le_trans (numC_le _) (Nat.le_of_lt (Nat.lt_of_le_of_lt (like_le _ _) hi))
def NoneB (a : Aut) (i k : Nat) : Prop := ∀ q, q < k → (relL (simL a) i q && relL (simL a) q i) = false
theorem NoneB.next {a : Aut} {i k : Nat} (h : NoneB a i k) (hk : (relL (simL a) i k && relL (simL a) k i) = false) : NoneB a i (k + 1) := fun q hq => by
 by_cases e : q = k
 ·subst e; exact hk
 ·exact h q (by omega)
theorem NoneB.all {a : Aut} {i : Nat} (h : NoneB a i i) : likeF (simL a) i = i := firstB_uniq lR h (fun e => absurd e (Nat.lt_irrefl _))
theorem NoneB.hit {a : Aut} {i k : Nat} (h : NoneB a i k) (hk : k < i) (h1 : relL (simL a) i k = true) (h2 : relL (simL a) k i = true) : likeF (simL a) i = k := firstB_uniq (Nat.le_of_lt hk) h (fun _ => by rw [h1, h2]; rfl)
end Go.Proofs.YtiebpncpdbnelaaDoor
