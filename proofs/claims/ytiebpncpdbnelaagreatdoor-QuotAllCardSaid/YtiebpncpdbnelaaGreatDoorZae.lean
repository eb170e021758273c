/- Texts that stand one behind the other, in one file. -/
import Derived.Test.YtiebpncpdbnelaaGreatDoorMe
import Derived.Test.YtiebpncpdbnelaaGreatDoorZac
import Derived.Deep.RegionLaw
import Derived.Laws.StructEq
import Derived.IntWalk
import Derived.DeepKeys5
import Derived.Maps.Own
import Derived.Maps.OwnOps
import Derived.Maps.Views
import Derived.WideKeyEntry
import Derived.Shelf.Spec.TrailingZeros
import Derived.Lib.ItoaMem
import Derived.Shelf.RegionOpen
import Derived.Deep.Cut
import Derived.Deep.DeepCutAuto
import Derived.Laws.EntriesVeiled
import Derived.Deep.OwnRows
set_option maxHeartbeats 8000000
set_option maxRecDepth 100000
namespace Go.Proofs.YtiebpncpdbnelaaGreatDoor
open Go.RowKit
section
variable {P : Program} {ops : Array Oper} {rest : List Oper} {o : Oper} {a : Act} {Q : Exit → Act → World → Prop} {w : World}
theorem step_ext0 {K : Act → World → Prop} {E : Prop} (hgd : o.guard = none) (s x : Operand) (t : TypeId) (ho : o.op = .call { callee := .builtin .append, args := #[s, x], argTypes := #[t, t] })
  (base e size bytes : Nat) (T : SliceT P t e size bytes) (k : Nat) (hs : a.eval s = .slice (some ⟨k, 0, none⟩) 0 0)
  (B : Nat) (A : Option Addr) (m c : Nat) (news : List Value) (hx : a.eval x = .slice A m c) (hr : Sl w B size A m c news) (h1 : ∀ u ∈ news, u.oneCell' = true)
  (hn : m ≤ 1000000000000) (hby : bytes ≤ 128) (hbase : base ≤ w.1.size) (hk : w.1[k]? = some (.cells #[] e (0, 0))) (hbk : base ≤ k)
  (h : ∀ v' w', w'.ownsRow base e size v' m news → Below w.1.size w w' → K (a.put o.dst v') w') :
  if Region.wanted o (yielded ops a.tmps) = true then Oper.wp P o a w K Q else E := by
 have hown : w.ownsRow base e size (.slice (some ⟨k, 0, none⟩) 0 0) 0 [] :=
  ⟨by simp, .inr ⟨k, 0, #[], rfl, hbk, hk, lR, by unfold maxLen; omega, by simp, by simp⟩⟩
 have hw : Region.wanted o (yielded ops a.tmps) = true := by simp [Region.wanted, hgd]
 rw [if_pos hw]
 obtain ⟨ht, hsz, i, z, hi, hz, hs1, hb1, hz1⟩ := T
 have hbb : (0 + m) * bytes ≤ 140737488355328 := by
  have : (0 + m) * bytes ≤ 1000000000000 * 128 := Nat.mul_le_mul (by omega) hby
  omega
 rcases A with _ | ad
 ·have hc : c = 0 := hr.nil rfl
  have hm : m = 0 := by have := hr.cap; omega
  subst hc; subst hm
  have hnews : news = [] := List.eq_nil_of_length_eq_zero (by rw [hr.len]; simp)
  subst hnews
  have hrun := run_append_owned_none (P := P) (w := w) base t o.type e i size ht hi _ 0 [] hown
  unfold Oper.wp execOp
  simp only [ho, resolve, invoke, builtin, Sem.run_bind, Sem.run_pure, Result.andThen_ok, List.map_toArray, List.map_cons, List.map_nil, hs, hx, hrun]
  exact h _ w hown bR
 ·have hnews : ∀ j u, news[j]? = some u → w.cell? (ad.add j) = some u := by
   intro j u hu
   obtain ⟨b, off, hA, _, hc⟩ := hr.rd.at_ hu
   cases hA
   have hadd : (⟨b, off, none⟩ : Addr).add j = ⟨b, off + j, none⟩ := by
    unfold Addr.add
    split
    ·rename_i h; subst h; rfl
    ·rfl
   rw [hadd]; exact hc
  by_cases hm : m = 0
  ·subst hm
   have hnews0 : news = [] := List.eq_nil_of_length_eq_zero (by rw [hr.len]; simp)
   subst hnews0
   have hrun := run_append_room_cells (P := P) w t o.type e i ht hi k 0 0 0 ad 0 c [] (by simp) (by simp) (by simp) lR (by simp) (by simp)
   unfold Oper.wp execOp
   simp only [ho, resolve, invoke, builtin, Sem.run_bind, Sem.run_pure, Result.andThen_ok, List.map_toArray, List.map_cons, List.map_nil, hs, hx, hrun]
   exact h _ w hown bR
  ·obtain ⟨v', w', hrun, h2, h3⟩ := run_append_arg_grows (P := P) w t o.type e i z size bytes ht hi hz hs1 hb1 hz1 hsz ⟨k, 0, none⟩ 0 0 [] (by simp) (by simp) ad m c news hr.len hnews (by omega) (by unfold maxLen; omega) hbb
   unfold Oper.wp execOp
   simp only [ho, resolve, invoke, builtin, Sem.run_bind, Sem.run_pure, Result.andThen_ok, List.map_toArray, List.map_cons, List.map_nil, hs, hx, hrun]
   rw [Nat.zero_add, List.nil_append] at h2
   exact h v' w' (own_base h2 hbase) ((Tch.of_grown h3).below lR (fun _ _ e => by cases e))
theorem own_tchE {w w' : World} {base e e' size size' n m : Nat} {v u : Value} {xs ys : List Value} (h : w.ownsRow base e' size' v n xs) (hE : w.ownsRow base e size u m ys) (ht : Tch (fun k => u.ownBlock = some k) w w') (hne : e' ≠ e) : w'.ownsRow base e' size' v n xs :=
 own_tch h ht (fun k hk hS => own_ne h hE hne k hk hS)
theorem below_tchE {w0 w w' : World} {base e size m : Nat} {u : Value} {ys : List Value} (h : Below base w0 w) (hE : w.ownsRow base e size u m ys) (ht : Tch (fun k => u.ownBlock = some k) w w') (hb : base ≤ w0.1.size) : Below base w0 w' :=
 h.trans (ht.below (by have := h.size; omega) (fun k hk hS => by have := (hE.lt k hS).1; omega))
end
end Go.Proofs.YtiebpncpdbnelaaGreatDoor
namespace Go.Proofs.YtiebpncpdbnelaaGreatDoor
open Go.RowKit Go.Maps
theorem plainElem_bool_inv {P : Program} {e : TypeId} (he : P.underlying e = some .bool) {v : Value} {x : Bool} {ps : List MemPlace} (h : plainElem (H := Unit) P e v = some (.lit (.bool x), ps)) : v = .bool x := by
 unfold plainElem at h
 rw [he] at h
 cases v <;> simp at h
 rw [h.1]
end Go.Proofs.YtiebpncpdbnelaaGreatDoor
namespace Go.Proofs.YtiebpncpdbnelaaGreatDoor
open Go.RowKit Go.Maps Go.MapKept Go.ChangeMaps
open Go.WideElems (Fit rg rd rg_of findIdx_born findIdx_arr modify_last)
def Rv (v : Value) : Option (DataW Value × List MemPlace) := some (.held v, [])
def PutG (g g' : Lit → Option Value) (kl : Lit) (v : Value) : Prop := g' kl = some v ∧ ∀ l, l ≠ kl → g' l = g l
theorem putG_ex (g : Lit → Option Value) (kl : Lit) (v : Value) : ∃ g', PutG g g' kl v :=
 ⟨fun l => @ite _ (l = kl) (Classical.propDecidable _) (some v) (g l), if_pos rfl, fun _l hl => if_neg hl⟩
def GMap (w : World) (kt : TypeId) (mb n : Nat) (g : Lit → Option Value) : Prop :=
 ∃ D : DataW Value, w.ownsMap Tryz.prog kt Rv mb n D ∧ IsMap D ∧ ∀ (key : Value) (kl : Lit), keyOf Tryz.prog kt key = some kl → ∀ zd, D.atKey kl zd = (g kl).elim zd .held
section
variable {w w' : World} {kt t e : TypeId} {mb n : Nat} {g : Lit → Option Value} {z key : Value} {kl : Lit}
theorem GMap.lt (h : GMap w kt mb n g) : mb < w.1.size := by obtain ⟨D, hD, _⟩ := h; exact hD.lt
theorem GMap.blk (h : GMap w kt mb n g) (hb : w'.1[mb]? = w.1[mb]?) : GMap w' kt mb n g := by
 obtain ⟨D, ⟨es, clock, h0, F, hs, hD⟩, h2, h3⟩ := h
 exact ⟨D, ⟨es, clock, hb.trans h0, F, hs, hD⟩, h2, h3⟩
theorem GMap.keep {S : Nat → Prop} (h : GMap w kt mb n g) (ht : Tch S w w') (hS : ¬ S mb) : GMap w' kt mb n g := h.blk (ht.block _ h.lt hS)
theorem GMap.of_blk (h : w.1[mb]? = some (.map #[] 0)) : GMap w kt mb 0 (fun _ => none) :=
 ⟨.map [], ⟨#[], 0, h, ⟨by simp, MapKept.stamped_empty 0, by simp⟩, lR, rfl⟩, isMap_empty, fun _ _ _ _ => rfl⟩
theorem GMap.look (h : GMap w kt mb n g) (c : Bool) (K : Keyed Tryz.prog kt) (ht : Tryz.prog.underlying t = some (.map kt e)) (hz : (zeroValue e).run Tryz.prog w = .ok z w) (hkey : keyOf Tryz.prog kt key = some kl) :
  (Instr.lookup t (.map (some mb)) key c).run Tryz.prog w = .ok (if c then .tuple #[(g kl).getD z, .bool (g kl).isSome] else (g kl).getD z) w := by
 obtain ⟨D, ⟨es, clock, hb, F, hs, hD⟩, _, h3⟩ := h
 subst hD
 have h4 := h3 key kl hkey
 rcases Maps.fit_look c K ht hz hb F hkey with ⟨hr, _, ha⟩ | ⟨e0, y, _, _, hr, hR, ha, _⟩
 ·have : g kl = none := by
   have e1 := h4 (.lit (.bool false)); rw [ha] at e1
   cases hg : g kl with
   | none => rfl
   | some v => rw [hg] at e1; cases e1
  rw [this]; exact hr
 ·have : g kl = some e0.val := by
   have e1 := h4 (.lit (.bool false)); rw [ha] at e1
   simp only [Rv, Option.some.injEq] at hR
   subst hR
   cases hg : g kl with
   | none => rw [hg] at e1; cases e1
   | some v =>
    rw [hg] at e1
    have e2 : (DataW.held e0.val : DataW Value) = .held v := e1
    have e3 : e0.val = v := DataW.held.inj e2
    exact congrArg some e3.symm
  rw [this]; exact hr
theorem GMap.update (h : GMap w kt mb n g) (K : Keyed Tryz.prog kt) (ht : Tryz.prog.underlying t = some (.map kt e)) (hn : n < maxLen) (hkey : keyOf Tryz.prog kt key = some kl) (v : Value) :
  ∃ w1, (Instr.mapUpdate t (.map (some mb)) key v).run Tryz.prog w = .ok () w1 ∧ (∀ g', PutG g g' kl v → GMap w1 kt mb (n + 1) g') ∧ w.grownBy w1 (some mb) := by
 obtain ⟨D, h1, h2, h3⟩ := h
 obtain ⟨w1, hr, ho, hg⟩ := h1.update K ht hn hkey (show Rv v = some (.held v, []) from rfl)
 refine ⟨w1, hr, fun g' hp => ⟨_, ho, h2.put _ _, fun k2 kl2 hk2 zd => ?_⟩, hg⟩
 by_cases e : kl2 = kl
 ·subst e
  rw [hp.1, atKey_put_same h2 (K.key hkey)]; rfl
 ·rw [hp.2 _ e, atKey_put_other e]; exact h3 _ _ hk2 zd
end
end Go.Proofs.YtiebpncpdbnelaaGreatDoor
namespace Go.Proofs.YtiebpncpdbnelaaGreatDoor
open Go.RowKit Go.Maps
theorem sliceANd : SliceT Tryz.prog 23 36 4 48 :=
 SliceT.mk (z := .agg #[.int .u64 0, .int .u64 0, .int .u64 0, .slice none 0 0]) Tryz.underlying23 (by kernel_rfl) (by decide) (by decide)
end Go.Proofs.YtiebpncpdbnelaaGreatDoor
namespace Go.Proofs.YtiebpncpdbnelaaGreatDoor
open Go.RowKit Go.Maps
structure AutRd (w : World) (B : Nat) (a : Aut) (Ai : Option Addr) (ni ci : Nat) (An : Option Addr) (nn cn : Nat) : Prop where
 eni : ni = a.init.length
 enn : nn = a.nodes.length
 init : Sl w B 1 Ai ni ci (icells a.init)
 nodes : ∃ xs, Sl w B 4 An nn cn xs ∧ ∀ (k : Nat) (x : ANd), a.nodes[k]? = some x → ∃ A c, xs[k * 4]? = some (.int .u64 (x.need : Int)) ∧ xs[k * 4 + 1]? = some (.int .u64 (x.ban : Int)) ∧ xs[k * 4 + 2]? = some (.int .u64 (x.inn : Int)) ∧
  xs[k * 4 + 3]? = some (.slice A x.to.length c) ∧ Sl w B 1 A x.to.length c (icells x.to)
theorem AutRd.below {w w' : World} {B B' : Nat} {a : Aut} {Ai An : Option Addr} {ni ci nn cn : Nat} (h : AutRd w B a Ai ni ci An nn cn) (hb : Below B' w w') (hB : B ≤ B') : AutRd w' B a Ai ni ci An nn cn := by
 obtain ⟨xs, h1, h2⟩ := h.nodes
 refine ⟨h.eni, h.enn, h.init.below hb hB, xs, h1.below hb hB, fun k x hk => ?_⟩
 obtain ⟨A, c, e0, e1, e2, e3, t⟩ := h2 k x hk
 exact ⟨A, c, e0, e1, e2, e3, t.below hb hB⟩
theorem AutRd.up {w : World} {B B' : Nat} {a : Aut} {Ai An : Option Addr} {ni ci nn cn : Nat} (h : AutRd w B a Ai ni ci An nn cn) (hB : B ≤ B') : AutRd w B' a Ai ni ci An nn cn := by
 obtain ⟨xs, h1, h2⟩ := h.nodes
 refine ⟨h.eni, h.enn, h.init.up hB, xs, h1.up hB, fun k x hk => ?_⟩
 obtain ⟨A, c, e0, e1, e2, e3, t⟩ := h2 k x hk
 exact ⟨A, c, e0, e1, e2, e3, t.up hB⟩
theorem sl_nilA (w : World) (B size : Nat) : Sl w B size none 0 0 [] := ⟨by simp, lR, Nat.zero_le _, fun _ => rfl, .inl rfl⟩
theorem autRd_nil (w : World) (B : Nat) : AutRd w B ⟨0, [], []⟩ none 0 0 none 0 0 := ⟨rfl, rfl, sl_nilA w B 1, [], sl_nilA w B 4, fun k x hk => by simp at hk⟩
section
variable {n0 B kb nb ob : Nat} {Af : Option Addr} {cf : Nat} {f : List Nd} {sets : Int} {w : World} {L : List Cov} {p : Nat} {rows : List (List Nat)} {vi vn : Value}
end
end Go.Proofs.YtiebpncpdbnelaaGreatDoor
namespace Go.Proofs.YtiebpncpdbnelaaGreatDoor
open Go.RowKit
theorem rd_aut {w : World} {B : Nat} {a : Aut} {Ai An : Option Addr} {ni ci nn cn : Nat} (h : AutRd w B a Ai ni ci An nn cn) {k : Nat} (hk : k < nn) :
  ∃ b off x A c, An = some ⟨b, off, none⟩ ∧ b < B ∧ a.nodes[k]? = some x ∧ w.cell? ⟨b, off + k * 4, none⟩ = some (.int .u64 (x.need : Int)) ∧ w.cell? ⟨b, off + k * 4 + 1, none⟩ = some (.int .u64 (x.ban : Int)) ∧
   w.cell? ⟨b, off + k * 4 + 2, none⟩ = some (.int .u64 (x.inn : Int)) ∧ w.cell? ⟨b, off + k * 4 + 3, none⟩ = some (.slice A x.to.length c) ∧ Sl w B 1 A x.to.length c (icells x.to) := by
 obtain ⟨xs, h1, h2⟩ := h.nodes
 have hkl : k < a.nodes.length := by rw [← h.enn]; exact hk
 obtain ⟨A, c, e0, e1, e2, e3, t⟩ := h2 k _ (gE hkl)
 rcases h1.rd with h0 | ⟨b, off, hA, hlt, hc⟩
 ·rw [h0] at e0; simp at e0
 ·exact ⟨b, off, _, A, c, hA, hlt, gE hkl, hc _ _ e0, by rw [Nat.add_assoc]; exact hc _ _ e1, by rw [Nat.add_assoc]; exact hc _ _ e2, by rw [Nat.add_assoc]; exact hc _ _ e3, t⟩
theorem rd_intS {w : World} {B : Nat} {A : Option Addr} {n c : Nat} {l : List Int} (h : Sl w B 1 A n c (icells l)) {k : Nat} (hk : k < l.length) : ∃ b off, A = some ⟨b, off, none⟩ ∧ b < B ∧ w.cell? ⟨b, off + k, none⟩ = some (.int .i64 l[k]) :=
 h.rd.at_ (j := k) (u := .int .i64 l[k]) (by simp [icells, hk])
theorem below_drewA (w : World) (n : Nat) : Below w.1.size w (w.drewN n) := have h := Below.refl w.1.size w; ⟨h.os, h.tape, h.output, h.size, h.block⟩
theorem below_dd {B : Nat} {w W0 : World} (h : Below B w W0) (n m : Nat) : Below B w ((W0.drewN n).drewN m) := ⟨h.os, h.tape, h.output, h.size, h.block⟩
theorem shr_ne (x t : Nat) : ((x : Int) / 2 ^ t != 0) = !(x >>> t == 0) := by
 rw [Nat.shiftRight_eq_div_pow]
 have h : ((x : Int) / 2 ^ t) = ((x / 2 ^ t : Nat) : Int) := by simp
 rw [h]
 by_cases h0 : x / 2 ^ t = 0
 ·simp [h0]
 ·have h1 : ((x / 2 ^ t : Nat) : Int) ≠ 0 := by omega
  rw [bne_iff_ne.2 h1, beq_eq_false_iff_ne.2 h0]; rfl
theorem box3A {w : World} {b t : Nat} {p q r : Value} (h : w.1[b]? = some (.cells #[p, q, r] t (0, 0))) : w.cell? ⟨b, 0, none⟩ = some p ∧ w.cell? ⟨b, 1, none⟩ = some q ∧ w.cell? ⟨b, 2, none⟩ = some r := by
 refine ⟨?_, ?_, ?_⟩ <;> (rw [cell_of_row _ _ _ _ _ (0, 0) h]; rfl)
theorem isNd_no {n : Nat} {i : Int} (h : ¬ isNd n i = true) : i < 0 ∨ (0 ≤ i ∧ (n : Int) ≤ i) := by
 rw [isNd_iff] at h; omega
theorem chkR_any (a : Aut) (Ai : Option Addr) (ni ci : Nat) (An : Option Addr) (nn cn : Nat) (w : World) (B : Nat) (h : AutRd w B a Ai ni ci An nn cn) (hB : B ≤ w.1.size) :
  Calls Tryz.prog 16 #[.agg #[.int .i64 a.sets, .slice Ai ni ci, .slice An nn cn]] w (Num w (chkA a)) := by
 have hb0 : Below w.1.size w (w.alloc (.cells #[.int .i64 a.sets, .slice Ai ni ci, .slice An nn cn] 25)) := bR.alloc lR _
 have hx0 := heap_alloc_new w (.cells #[.int .i64 a.sets, .slice Ai ni ci, .slice An nn cn] 25)
 have hz0 : (w.alloc (.cells #[.int .i64 a.sets, .slice Ai ni ci, .slice An nn cn] 25)).1.size = w.1.size + 1 := by simp
 obtain ⟨W0, hW0⟩ := xQ (w.alloc (.cells #[.int .i64 a.sets, .slice Ai ni ci, .slice An nn cn] 25))
 rw [hW0] at hb0 hx0 hz0
 have HW0 := dh hW0
 obtain ⟨k0, k1, k2⟩ := box3A hx0
 have hrd := h.below hb0 hB
 have hni := h.eni
 have hnn := h.enn
 have hci := h.init.cap
 have hmi := h.init.max
 obtain ⟨xsN, hsN, -⟩ := h.nodes
 have hcn := hsN.cap
 have hmn := hsN.max
 have hBs : B ≤ W0.1.size := by omega
 obtain ⟨s, hs⟩ := xQ a.sets
 have HS := dh hs
 rw [hs] at HW0 k0
 clear hsN
 unfold maxLen at hmi hmn
 have HR := dh hrd
 have HNI := dh hni
 have HNN := dh hnn
 have gmi : (ni : Int) ≤ 9223372036854775807 := by omega
 clear hrd hW0 h hni hnn
 rw [hs]
 by_cases h256 : 256 < nn
 ·have g256 : (256 : Int) < (nn : Int) := by omega
  have HE : Hid (chkA a = 11) := dh (by unfold chkA; rw [if_pos (.inl (by rw [← HNN.out]; exact h256))])
  clear hs
  go_enter Tryz.func16, Tryz.ntmps16
  go_wp2_with fail
  rw [HW0.out]
  go_wp2_with fail
  go_ret
  exact ⟨by rw [HE.out]; rfl, hb0⟩
 ·have g256 : ¬ (256 : Int) < (nn : Int) := by omega
  by_cases h16 : 16 < s
  ·have HE : Hid (chkA a = 11) := dh (by unfold chkA; rw [if_pos (.inr (by rw [hs]; exact h16))])
   clear hs
   go_enter Tryz.func16, Tryz.ntmps16
   go_wp2_with fail
   rw [HW0.out]
   go_wp2_with fail
   go_ret
   exact ⟨by rw [HE.out]; rfl, hb0⟩
  ·have he1 : ¬ (256 < a.nodes.length ∨ 16 < a.sets) := by rw [← HNN.out, hs]; omega
   by_cases hs0 : s < 0
   ·have HE : Hid (chkA a = 10) := dh (by unfold chkA; rw [if_neg he1, if_pos (by rw [hs]; exact hs0)])
    clear hs he1
    go_enter Tryz.func16, Tryz.ntmps16
    go_wp2_with fail
    rw [HW0.out]
    go_wp2_with fail
    go_ret
    exact ⟨by rw [HE.out]; rfl, hb0⟩
   ·have he2 : ¬ a.sets < 0 := by rw [hs]; exact hs0
    have hC0 : chkA a = if a.init.all (isNd a.nodes.length) = true then chkNds a.nodes.length a.sets a.nodes else 10 := by
     unfold chkA
     rw [if_neg he1, if_neg he2]
    have HC := dh hC0
    clear hC0
    clear hs he1 he2
    go_enter Tryz.func16, Tryz.ntmps16
    go_wp2_with fail
    rw [HW0.out]
    go_loopw [3] (fun v wr => ∃ i m : Nat, i ≤ ni ∧ v = .int .i64 i ∧ wr = W0.drewN m ∧ Hid (∀ x ∈ a.init.take i, isNd a.nodes.length x = true)) (fun v _ => ni - (intOf v).toNat)
    case atStart => exact ⟨0, 0, by omega, rfl, rfl, dh (fun x hx => by simp at hx)⟩
    case round =>
     obtain ⟨i, m, hi, rfl, rfl, HQ⟩ := hrel
     by_cases hlt : i < ni
     ·have hlt' : (i : Int) < (ni : Int) := by omega
      have hil : i < a.init.length := by rw [← HNI.out]; exact hlt
      obtain ⟨b, o, rfl, hbl, hc⟩ := rd_intS HR.out.init hil
      have hq2 := all_takeS (P := fun x => isNd a.nodes.length x = true) hil HQ.out
      have wi : IntKind.i64.wrap ((i : Int) + 1) = i + 1 := by rw [wI]; omega
      have hnot : ¬ isNd a.nodes.length a.init[i] = true → chkA a = 10 := fun hx => by
       rw [HC.out, if_neg (fun h => hx (List.all_eq_true.1 h _ (mM hil)))]
      generalize a.init[i] = x at *
      have HQ2 := dh hq2
      have HNO := dh hnot
      clear hq2 hnot
      by_cases hn : isNd a.nodes.length x = true
      ·have hx := isNd_iff.1 hn
       rw [← HNN.out] at hx
       obtain ⟨hx1, hx2⟩ := hx
       have d1 : decide (x < 0) = false := by simp; omega
       have d2 : decide ((nn : Int) ≤ x) = false := by simp; omega
       have HN := dh hn
       clear hn
       go_wp2_with fail
       go_quiet (fail)
       go_wp2
       go_roundw
       case rel => exact ⟨i + 1, _, by omega, by go_num, by first | rfl | rw [World.drewN_drewN], dh (HQ2.out HN.out)⟩
       case measure => simp [intOf]; omega
      ·have HE := dh (HNO.out hn)
       have hx := isNd_no hn
       rw [← HNN.out] at hx
       clear hn
       rcases hx with hx | ⟨hx, hx2⟩
       ·have d1 : decide (x < 0) = true := by simp; omega
        go_wp2_with fail
        go_quiet (fail)
        go_wp2
        go_ret
        exact ⟨by rw [HE.out]; rfl, below_dd hb0 _ _⟩
       ·have d1 : decide (x < 0) = false := by simp; omega
        have d2 : decide ((nn : Int) ≤ x) = true := by simp; omega
        go_wp2_with fail
        go_quiet (fail)
        go_wp2
        go_ret
        exact ⟨by rw [HE.out]; rfl, below_dd hb0 _ _⟩
     ·have hin : i = ni := by omega
      subst hin
      have hall : a.init.all (isNd a.nodes.length) = true := List.all_eq_true.2 (fun x hx => HQ.out x (by rw [HNI.out, List.take_length]; exact hx))
      have hc2 : chkA a = chkNds a.nodes.length a.sets a.nodes := by rw [HC.out, if_pos hall]
      have HC2 := dh hc2
      clear hall hc2
      go_wp2_with fail
      go_loopw [4] (fun v wr => ∃ i m : Nat, i ≤ nn ∧ v = .int .i64 i ∧ wr = W0.drewN m ∧ Hid (∀ x ∈ a.nodes.take i, chkNd a.nodes.length a.sets x = 0)) (fun v _ => nn - (intOf v).toNat)
      case atStart => exact ⟨0, _, by omega, rfl, rfl, dh (fun x hx => by simp at hx)⟩
      case round =>
       clear HQ HC
       obtain ⟨i, m, hi, rfl, rfl, HQ⟩ := hrel
       by_cases hlt : i < nn
       ·have hlt' : (i : Int) < (nn : Int) := by omega
        have hi0 : (0 : Int) ≤ (i : Int) := by omega
        obtain ⟨b, o, x, At, ct, rfl, hbl, hx, c0, c1, c2, c3, hst⟩ := rd_aut HR.out hlt
        have hil : i < a.nodes.length := by rw [← HNN.out]; exact hlt
        have hxe : a.nodes[i] = x := by
         rw [gE hil] at hx; exact Option.some.inj hx
        have hq2 : chkNd a.nodes.length a.sets x = 0 → ∀ y ∈ a.nodes.take (i + 1), chkNd a.nodes.length a.sets y = 0 := fun h => all_takeS (P := fun x => chkNd a.nodes.length a.sets x = 0) hil HQ.out (by rw [hxe]; exact h)
        have hbad : chkNd a.nodes.length a.sets x ≠ 0 → chkA a = chkNd a.nodes.length a.sets x := fun h => by
         rw [HC2.out, chkNds_at hil HQ.out (by rw [hxe]; exact h), hxe]
        have hmt := hst.max
        have hct := hst.cap
        unfold maxLen at hmt
        have gmt : (x.to.length : Int) ≤ 9223372036854775807 := by omega
        have wi : IntKind.i64.wrap ((i : Int) + 1) = i + 1 := by rw [wI]; omega
        have HQ2 := dh hq2
        have HBAD := dh hbad
        have HST := dh hst
        clear hq2 hbad hst hx hxe c0 c1
        go_wp2_with fail
        go_loopw [5] (fun v wr => ∃ j m : Nat, j ≤ x.to.length ∧ v = .int .i64 j ∧ wr = W0.drewN m ∧ Hid (∀ t ∈ x.to.take j, isNd a.nodes.length t = true)) (fun v _ => x.to.length - (intOf v).toNat)
        case atStart => exact ⟨0, _, by omega, rfl, rfl, dh (fun x hx => by simp at hx)⟩
        case round =>
         obtain ⟨j, m', hj, rfl, rfl, HJ⟩ := hrel
         by_cases hjl : j < x.to.length
         ·have hjl' : (j : Int) < (x.to.length : Int) := by omega
          have hj0 : (0 : Int) ≤ (j : Int) := by omega
          obtain ⟨bt, ot, rfl, hbt, hct2⟩ := rd_intS HST.out hjl
          have hq3 := all_takeS (P := fun x => isNd a.nodes.length x = true) hjl HJ.out
          have wj : IntKind.i64.wrap ((j : Int) + 1) = j + 1 := by rw [wI]; omega
          have hnot : ¬ isNd a.nodes.length x.to[j] = true → chkNd a.nodes.length a.sets x = 10 := fun hx => by
           unfold chkNd
           rw [if_neg (fun h => hx (List.all_eq_true.1 h _ (mM hjl)))]
          generalize x.to[j] = y at *
          have HQ3 := dh hq3
          have HNO := dh hnot
          clear hq3 hnot
          by_cases hn : isNd a.nodes.length y = true
          ·have hx := isNd_iff.1 hn
           rw [← HNN.out] at hx
           obtain ⟨hx1, hx2⟩ := hx
           have d1 : decide (y < 0) = false := by simp; omega
           have d2 : decide ((nn : Int) ≤ y) = false := by simp; omega
           have HN := dh hn
           clear hn
           go_wp2_with fail
           go_quiet (fail)
           go_wp2
           go_roundw
           case rel => exact ⟨j + 1, _, by omega, by go_num, by first | rfl | rw [World.drewN_drewN], dh (HQ3.out HN.out)⟩
           case measure => simp [intOf]; omega
          ·have hE10 := HNO.out hn
           have HE : Hid (chkA a = 10) := dh (by rw [HBAD.out (by rw [hE10]; decide), hE10])
           have hx := isNd_no hn
           rw [← HNN.out] at hx
           clear hn hE10
           rcases hx with hx | ⟨hx, hx2⟩
           ·have d1 : decide (y < 0) = true := by simp; omega
            go_wp2_with fail
            go_quiet (fail)
            go_wp2
            go_ret
            exact ⟨by rw [HE.out]; rfl, below_dd hb0 _ _⟩
           ·have d1 : decide (y < 0) = false := by simp; omega
            have d2 : decide ((nn : Int) ≤ y) = true := by simp; omega
            go_wp2_with fail
            go_quiet (fail)
            go_wp2
            go_ret
            exact ⟨by rw [HE.out]; rfl, below_dd hb0 _ _⟩
         ·have hjn : j = x.to.length := by omega
          subst hjn
          have hall : x.to.all (isNd a.nodes.length) = true := List.all_eq_true.2 (fun t ht => HJ.out t (by rw [List.take_length]; exact ht))
          have hcn : chkNd a.nodes.length a.sets x = if x.inn >>> s.toNat = 0 then 0 else 3 := by
           unfold chkNd
           rw [if_pos hall, HS.out]
          obtain ⟨t, ht⟩ : ∃ t : Nat, s = (t : Int) := ⟨s.toNat, by omega⟩
          subst ht
          have hw64 : IntKind.u64.wrap (t : Int) = t := by rw [IntKind.wrap_u64]; omega
          have hsh := shr_ne x.inn t
          rw [show ((t : Int)).toNat = t from by simp] at hcn
          by_cases hz : x.inn >>> t = 0
          ·rw [show (x.inn >>> t == 0) = true from by simp [hz]] at hsh
           have hsh2 : ((x.inn : Int) / 2 ^ t != 0) = false := hsh
           have HE := dh (HQ2.out (by rw [hcn, if_pos hz]))
           clear hz hsh hcn hall
           go_wp2_with fail
           go_quiet (fail)
           go_wp2
           go_roundw
           case rel => exact ⟨i + 1, _, by omega, by go_num, by first | rfl | rw [World.drewN_drewN], HE⟩
           case measure => simp [intOf]; omega
          ·rw [show (x.inn >>> t == 0) = false from by simp [hz]] at hsh
           have hsh2 : ((x.inn : Int) / 2 ^ t != 0) = true := hsh
           have h3 : chkNd a.nodes.length a.sets x = 3 := by rw [hcn, if_neg hz]
           have HE : Hid (chkA a = 3) := dh (by rw [HBAD.out (by rw [h3]; decide), h3])
           clear hz hsh hcn hall h3
           go_wp2_with fail
           go_quiet (fail)
           go_wp2
           go_ret
           exact ⟨by rw [HE.out]; rfl, below_dd hb0 _ _⟩
       ·have hin : i = nn := by omega
        subst hin
        have HE : Hid (chkA a = 0) := dh (by rw [HC2.out]; exact chkNds_ok (fun x hx => HQ.out x (by rw [HNN.out, List.take_length]; exact hx)))
        go_wp2_with fail
        go_ret
        exact ⟨by rw [HE.out]; rfl, below_dd hb0 _ 0⟩
end Go.Proofs.YtiebpncpdbnelaaGreatDoor
