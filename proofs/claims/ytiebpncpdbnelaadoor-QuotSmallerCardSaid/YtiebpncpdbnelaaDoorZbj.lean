/- Texts that stand one behind the other, in one file. -/
import Derived.Test.YtiebpncpdbnelaaDoorQuoP
import Derived.OrdersIn
set_option maxHeartbeats 4000000
set_option maxRecDepth 100000
namespace Go.Proofs.YtiebpncpdbnelaaDoor
open Go.RowKit
theorem ins_lt {a : Aut} (h : ∀ x ∈ a.nodes, x.inn < 2 ^ 64) (q : Nat) : (insA a).getD q 0 < 2 ^ 64 := by
 rw [insA_at]
 unfold Aut.at
 rw [gD]
 cases hx : a.nodes[q]? with
 | none => simp [ANd.none]
 | some x => exact h x (List.mem_of_getElem? hx)
theorem insA_len (a : Aut) : (insA a).length = a.nodes.length := by simp [insA]
end Go.Proofs.YtiebpncpdbnelaaDoor
namespace Go.Proofs.YtiebpncpdbnelaaDoor
open Go.RowKit
theorem left30_any (u : List Bool) (l : List Int) (at_ : List Int) (A : Option Addr) (n c : Nat) (b1 b2 S q N : Nat) (Wd : List Nat) (Aa : Option Addr) (ca : Nat) (w : World) (B : Nat) (h1 : w.cell? ⟨b1, 0, none⟩ = some (.pointer (some ⟨S, 0, none⟩))) (hb1 : b1 < w.1.size)
  (h2 : w.cell? ⟨b2, 0, none⟩ = some (.slice Aa N ca)) (hb2 : b2 < w.1.size) (hX : BSet S q N Wd w) (hbit : ∀ i, i < N → bitOf Wd i = u.getD i false) (hat : ∀ i, i < N → u.getD i false = true → at_.getD i 0 = (numC u i : Int)) (hsa : Sl w B 1 Aa N ca (icells at_)) (hs : Sl w B 1 A n c (icells l)) (hB : B ≤ w.1.size) (hl : ∀ t ∈ l, isNd N t = true) (hln : l.length ≤ 100000000) :
  Calls Tryd.prog 62 #[.slice A n c, .pointer (some ⟨b1, 0, none⟩), .pointer (some ⟨b2, 0, none⟩)] w (IntsPost w (keptL u l)) := by
 have hn : n = l.length := by have := hs.len; rw [icells_len] at this; omega
 have hnA : N = at_.length := by have := hsa.len; rw [icells_len] at this; omega
 have hcap := hs.cap
 have hmax := hs.max
 have hcapa := hsa.cap
 have hmaxa := hsa.max
 unfold maxLen at hmax hmaxa
 subst hn
 have HS := dh hs
 have HSA := dh hsa
 have HNA := dh hnA
 have HX := dh hX
 have H1 := dh h1
 have H2 := dh h2
 have HBIT := dh hbit
 have HAT := dh hat
 have HL := dh hl
 clear hs hsa hnA hX h1 h2 hbit hat hl
 go_enter Tryd.func62, Tryd.ntmps62
 go_wp2_with fail
 go_loopw [10, 5] (fun i o wr => ∃ m : Nat, m ≤ l.length ∧ i = .int .i64 (m : Int) ∧ Hid (wr.ownsRow w.1.size 3 1 o (keptL u (l.take m)).length (icells (keptL u (l.take m)))) ∧ Hid (Below w.1.size w wr)) (fun i _ _ => l.length - (intOf i).toNat)
 case atStart => exact ⟨0, by omega, rfl, dh (World.ownsRow_nil _ _ _ _), dh bR⟩
 case round =>
  obtain ⟨m, hm, rfl, HO, HB⟩ := hrel
  have hz := HB.out.size
  by_cases hlt : m < l.length
  ·have wm : IntKind.i64.wrap ((m : Int) + 1) = (m : Int) + 1 := by rw [wI]; omega
   have hm0 : (0 : Int) ≤ (m : Int) := by omega
   have hm1 : (m : Int) < (l.length : Int) := by omega
   obtain ⟨b, off, rfl, hbl, hcl⟩ := rd_intS (HS.out.below HB.out hB) hlt
   obtain ⟨j, hj, hjN⟩ := isNd_nat (HL.out l[m] (mM hlt))
   have HSN := dh (keptL_snoc (u := u) hlt)
   have hXr := HX.out.below HB.out
   have HH := dh (bhas_any S q N Wd j wr hXr hjN)
   have c1 : wr.cell? ⟨b1, 0, none⟩ = some (.pointer (some ⟨S, 0, none⟩)) := bC HB.out hb1 H1.out
   have c2 : wr.cell? ⟨b2, 0, none⟩ = some (.slice Aa N ca) := bC HB.out hb2 H2.out
   have hbt := HBIT.out j hjN
   have hat := HAT.out j hjN
   obtain ⟨bA, oA, rfl, hbA, hclA⟩ := rd_intS (k := j) (HSA.out.below HB.out hB) (by rw [← HNA.out]; exact hjN)
   have hgA : at_.getD j 0 = at_[j]'(by rw [← HNA.out]; exact hjN) := by rw [gD, gE (by rw [← HNA.out]; exact hjN)]; rfl
   have hj0 : (0 : Int) ≤ (j : Int) := by omega
   have hj1 : (j : Int) < (N : Int) := by omega
   rw [hj] at hcl HSN
   rw [tN] at HSN
   rw [← hgA] at hclA
   have hle : (keptL u (l.take m)).length ≤ m := Nat.le_trans keptL_le (by rw [List.length_take]; omega)
   clear hj hXr hgA
   go_wp2_with fail
   refine HH.out.mono ?_
   rw [hbt]
   cases hub : u.getD j false
   ·rintro e w' ⟨rfl, rfl⟩
    have HPx : Hid (keptL u (l.take (m + 1)) = keptL u (l.take m)) := dh (by rw [HSN.out, hub]; simp)
    clear hub hat hbt
    go_wp2_with fail
    exact ⟨⟨m + 1, by omega, congrArg (Value.int .i64) (by omega), dh (by rw [HPx.out]; exact HO.out), HB⟩, by simp [intOf]; omega⟩
   ·rintro e w' ⟨rfl, rfl⟩
    have HPx : Hid (keptL u (l.take (m + 1)) = keptL u (l.take m) ++ [(numC u j : Int)]) := dh (by rw [HSN.out, hub]; simp)
    rw [hat hub] at hclA
    clear hub hat hbt HSN
    generalize keptL u (l.take m) = Y at *
    obtain ⟨Au, cu, rfl, -⟩ := own_sl HO.out
    have hnw := dh (heap_alloc_new wr (.cells #[.int .i64 (numC u j : Int)] 3))
    go_wp2_with (at_builtin; refine wpList_push rfl (.tmp 17) (.tmp 22) 22 rfl w.1.size 3 1 8 sliceInt _ _ _ (HO.out.alloc _) rfl wr.1.size #[.int .i64 (numC u j : Int)] rfl hnw.out rfl (by simp [Value.oneCell']) (by omega) (by omega) (by simp; omega) ?_; intro u' wA hown3 ht3 hat3 hne3; obtain ⟨g', cap', rfl, _⟩ := own_form hown3 (by omega); have HOA := dh hown3; have HBA := dh (HB.out.trans ((Tch.trans ((Tch.refl _ wr).alloc _) ht3 (fun _ _ h => h)).below hz (fun k hk e => by have := (HO.out.lt k e).1; omega))))
    exact ⟨⟨m + 1, by omega, congrArg (Value.int .i64) (by omega), dh (by rw [HPx.out, lA, icells_append]; simpa [icells] using HOA.out), HBA⟩, by simp [intOf]; omega⟩
  ·have hme : m = l.length := by omega
   have HO2 : Hid (wr.ownsRow w.1.size 3 1 u5 (keptL u l).length (icells (keptL u l))) := dh (by have := HO.out; rwa [hme, List.take_length] at this)
   clear HO
   go_wp2_with fail
   go_ret
   exact ⟨_, rfl, HO2.out, HB.out⟩
end Go.Proofs.YtiebpncpdbnelaaDoor
namespace Go.Proofs.YtiebpncpdbnelaaDoor
open Go.RowKit
def SepA (w : World) (a : Aut) (Ai : Option Addr) (ni ci : Nat) (An : Option Addr) (nn cn : Nat) : Prop :=
 ∀ (S : Nat → Prop) (W2 : World), Tch S w W2 → (∀ g, S g → g < w.1.size → ∃ cs, w.1[g]? = some (.cells cs 25 (0, 0))) → AutRd W2 W2.1.size a Ai ni ci An nn cn
def AutOneS (w : World) (a : Aut) (en : Ending) (w' : World) : Prop :=
 ∃ Ai ni ci An nn cn, en = .returned (.agg #[.int .i64 a.sets, .slice Ai ni ci, .slice An nn cn]) ∧ AutRd w' w'.1.size a Ai ni ci An nn cn ∧ Below w.1.size w w' ∧ SepA w' a Ai ni ci An nn cn
theorem SepA.below {w w' : World} {a : Aut} {Ai : Option Addr} {ni ci : Nat} {An : Option Addr} {nn cn : Nat} (h : SepA w a Ai ni ci An nn cn) (hb : Below w.1.size w w') : SepA w' a Ai ni ci An nn cn := fun S W2 ht hS =>
 h (fun g => S g) W2 (Tch.trans (⟨hb.os, hb.tape, hb.output, hb.size, fun i hi _ => hb.block i hi⟩ : Tch S w w') ht (fun _ _ e => e)) (fun g hg hl => by
  obtain ⟨cs, hc⟩ := hS g hg (Nat.lt_of_lt_of_le hl hb.size)
  exact ⟨cs, (hb.block g hl).symm.trans hc⟩)
theorem SepA.rd {w : World} {a : Aut} {Ai : Option Addr} {ni ci : Nat} {An : Option Addr} {nn cn : Nat} (h : SepA w a Ai ni ci An nn cn) : AutRd w w.1.size a Ai ni ci An nn cn := h (fun _ => False) w (Tch.refl _ w) (fun _ e => e.elim)
theorem sep_nil (w : World) : SepA w Aut.zero none 0 0 none 0 0 := fun _ W2 _ _ => autRd_nil W2 _
theorem OutM.sep {base ob : Nat} {sets : Int} {Ai An : Option Addr} {ni ci nn cn : Nat} {I : List Int} {ns : List ANd} {xs : List Value} {w : World} (h : OutM base ob sets (.slice Ai ni ci) I (.slice An nn cn) ns xs w) : SepA w ⟨sets, I, ns⟩ Ai ni ci An nn cn := fun S W2 ht hS => by
 have hno : ∀ {b' : Nat} {e : TypeId} {size n : Nat} {v : Value} {ys : List Value}, w.ownsRow b' e size v n ys → e ≠ 25 → ∀ g, v.ownBlock = some g → ¬ S g := fun ho hne g hg e => by
  obtain ⟨cs, hc⟩ := hS g e (ho.lt g hg).2
  exact own_ne_blk ho hc hne hg
 have h1 := own_tch h.init ht (hno h.init (by decide))
 have h2 := h.nodes.tch ht (hno h.nodes.own (by decide)) (fun u n ys ho => hno ho (by decide))
 obtain ⟨A1, c1, e1, s1⟩ := own_sl h1
 obtain ⟨A2, c2, e2, s2⟩ := own_sl h2.own
 cases e1
 cases e2
 refine ⟨rfl, rfl, s1, xs, s2, fun k x hk => ?_⟩
 obtain ⟨u, e0, e1, e2, e3, ho⟩ := h2.at_ k x hk
 obtain ⟨A, c, rfl, hs⟩ := own_sl ho
 exact ⟨A, c, e0, e1, e2, e3, hs⟩
theorem AutRd.tchA {w w' : World} {B : Nat} {a : Aut} {Ai An : Option Addr} {ni ci nn cn : Nat} {S : Nat → Prop} (h : AutRd w B a Ai ni ci An nn cn) (ht : Tch S w w') (hB : B ≤ w.1.size) (hS : ∀ b, b < B → ¬ S b) : AutRd w' B a Ai ni ci An nn cn := by
 obtain ⟨xs, h1, h2⟩ := h.nodes
 refine ⟨h.eni, h.enn, h.init.tch ht hB hS, xs, h1.tch ht hB hS, fun k x hk => ?_⟩
 obtain ⟨A, c, e0, e1, e2, e3, t⟩ := h2 k x hk
 exact ⟨A, c, e0, e1, e2, e3, t.tch ht hB hS⟩
end Go.Proofs.YtiebpncpdbnelaaDoor
namespace Go.Proofs.YtiebpncpdbnelaaDoor
open Go
section
variable {P : Program} {ops : Array Oper} {Q : Exit → Act → World → Prop} {md : Region.Mode} {S : World → Prop} {z : Nat}
def noDeferB (ops : Array Oper) : Bool := ops.toList.all (fun o => match o.op with | .defer _ => false | _ => true)
theorem noDefer_spec (h : noDeferB ops = true) {i : Nat} {o : Oper} (ho : ops[i]? = some o) : ∀ c, o.op ≠ .defer c := by
 intro c hc
 have hm : o ∈ ops.toList := by
  rw [← Array.getElem?_toList] at ho
  exact List.mem_of_getElem? ho
 have := List.all_eq_true.1 h o hm
 rw [hc] at this
 cases this
theorem rowsIn_wide' {r n : Nat} {row : String} {args : Array Value} {w : World} {R : Value → World → Prop} (h : Rows P row args w R) : RowsIn (Fence.wide.inRound r) n P row args w R :=
 fun c cs _ => let ⟨v, w', r', s⟩ := h c cs; ⟨v, w', r', stepsIn_wide.2 s⟩
theorem opIn_of {r n i : Nat} {K : Act → World → Prop} {a : Act} {w : World} (hd : noDeferB ops = true) (hl : ¬ LetsOut Q) (h : wpOp P ops Q i K a w) : wpOpIn (Fence.wide.inRound r) n P ops Q i K a w := by
 unfold wpOp at h
 unfold wpOpIn
 cases ho : ops[i]? with
 | none => rw [ho] at h; exact h
 | some o =>
  rw [ho] at h
  simp only at h ⊢
  split
  ·rename_i hw
   rw [if_pos hw] at h
   rcases h with h | h
   ·refine ⟨fun _ _ => trivial, ?_⟩
    rw [Oper.semAt_eq _ _ _ (noDefer_spec hd ho)]
    unfold Oper.wp at h
    revert h
    generalize (execOp a.eval o).run P w = res
    intro h
    cases res with
    | ok nx w' =>
     cases nx with
     | value v => exact h
     | skip => exact h
     | defer d => exact h
     | enter f args => exact ⟨fun hh => (by cases hh), CallsIn.inRound r (callsIn_wide.2 h)⟩
     | row row args => exact ⟨fun hh => (by cases hh), rowsIn_wide' h⟩
     | _ => exact h.elim
    | halt hh w' =>
     cases hh with
     | panic v => exact h
     | _ => exact h.elim
   ·exact absurd h.2 hl
  ·rename_i hw
   rw [if_neg hw] at h
   exact ⟨fun _ _ => trivial, h⟩
theorem anyIn_of {r n : Nat} (hd : noDeferB ops = true) (hl : ¬ LetsOut Q) : ∀ (fuel : Nat) (listed : Array Bool) (a : Act) (w : World), wpAny P md ops Q fuel listed a w → wpAnyIn (Fence.wide.inRound r) n P md ops Q fuel listed a w
 | 0, _, _, _, h => h
 | fuel + 1, _, _, _, h => ⟨h.1, fun i hi => wpOpIn_mono (fun a' w' h' => anyIn_of hd hl fuel _ a' w' h') (opIn_of hd hl (h.2 i hi))⟩
theorem wpIn_region_U {r n id : Nat} {a : Act} {w : World} (z : Nat) (hm : P.follows .mixedOrders = true) (hd : noDeferB ops = true) (hl : ¬ LetsOut Q) (hS : S w.drew)
  (h : S w.drew → wpAnyU P .any ops Q S z ops.size (Array.replicate ops.size false) a w.drew) : (Code.region id ops true).wpIn (Fence.wide.inRound r) n P Q a w :=
 wpIn_region_any hm (anyIn_of hd hl _ _ _ _ (wpAny_of_U _ _ _ _ (h hS)))
theorem wp_only {c : Code} {K : Act → World → Prop} {Q' : Exit → Act → World → Prop} {a : Act} {w : World} (h : c.wp P (Exit.then K (fun _ _ _ => False)) a w) : c.wp P (Exit.then K Q') a w :=
 wp_mono h (fun e a w hq => by cases e <;> first | exact hq | exact hq.elim)
theorem wpIn_norm {F : Fence} {n : Nat} {c : Code} {Q' : Exit → Act → World → Prop} {a : Act} {w : World} (h : c.wpIn F n P (Exit.then (fun a w => Q' .normal a w) (fun _ _ _ => False)) a w) : c.wpIn F n P Q' a w :=
 wpIn_mono h (fun e a w hq => by cases e <;> first | exact hq | exact hq.elim)
theorem postT_ok {α : Type} {I : List α × (Nat → Prop) → World → Prop} {Ix : Code → List α × (Nat → Prop) → World → Prop} {xs : List α} {N N' : Nat → Prop} {W W' : World} {a : Act} (h1 : Rnd N W N' W') (h2 : I (xs, N') W') : postT I Ix xs N W .normal a W' := ⟨N', h1, h2⟩
theorem lets_none {K : Act → World → Prop} : ¬ LetsOut (Exit.then K (fun _ _ _ => False)) := fun ⟨_, _, h⟩ => h
end
end Go.Proofs.YtiebpncpdbnelaaDoor
