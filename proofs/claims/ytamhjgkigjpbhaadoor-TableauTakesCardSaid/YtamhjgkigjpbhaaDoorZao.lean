/- Texts that stand one behind the other, in one file. -/
import Derived.Test.YtamhjgkigjpbhaaDoorCv6
import Derived.DeepKeys5
import Derived.Maps.Own
import Derived.Maps.OwnOps
import Derived.Maps.Views
import Derived.WideKeyEntry

/- The map of what covers say (layer 28): keys of a struct's type. -/
namespace Go.Proofs.YtamhjgkigjpbhaaDoor
open Go.RowKit Go.Maps

theorem laidOutC : laidOutB Tryd.prog = true := by kernel_rfl
theorem saidKeyed : Keyed Tryd.prog 106 :=
  Keyed.of_law (deep_law_gate laidOutC (of_decide_eq_true (by kernel_rfl)) (of_decide_eq_true (by kernel_rfl)) (by kernel_rfl) (by kernel_rfl))
theorem said_cells : Tryd.prog.cellsOf 106 = 4 := by kernel_rfl
theorem said_types : Tryd.prog.types.size + 1 = (Tryd.prog.types.size - 1) + 2 := by
  have : 1 ≤ Tryd.prog.types.size := of_decide_eq_true (by kernel_rfl)
  omega
theorem said_keyType : Tryd.prog.keyType 106 = true := by kernel_rfl
theorem u64_cells : Tryd.prog.cellsOf 41 = 1 := by kernel_rfl
theorem str_cells : Tryd.prog.cellsOf 9 = 1 := by kernel_rfl
/-- What a cover says, as a key. -/
def keyV (c : Cov) : Value := .agg #[.int .u64 (c.1 : Int), .int .u64 (c.2.1 : Int), .string (strB c.2.2.1), .string (strB c.2.2.2)]
def CovSmall (c : Cov) : Prop := c.1 < 256 ∧ c.2.1 < 256 ∧ c.2.2.1.length ≤ 1000000 ∧ c.2.2.2.length ≤ 1000000
theorem keyOf_said {c : Cov} (h : CovSmall c) : ∃ kl, keyOf Tryd.prog 106 (keyV c) = some kl := by
  obtain ⟨h1, h2, h3, h4⟩ := h
  have w1 : (Lit.int .u64 (c.1 : Int)).wf = true := by rw [Lit.wf, show IntKind.u64.min = 0 from rfl, show IntKind.u64.max = 18446744073709551615 from rfl]; simp; omega
  have w2 : (Lit.int .u64 (c.2.1 : Int)).wf = true := by rw [Lit.wf, show IntKind.u64.min = 0 from rfl, show IntKind.u64.max = 18446744073709551615 from rfl]; simp; omega
  have s1 : (strB c.2.2.1).size ≤ maxLen := by rw [strB, strOfNums_size]; simp; unfold maxLen; omega
  have s2 : (strB c.2.2.2).size ≤ maxLen := by rw [strB, strOfNums_size]; simp; unfold maxLen; omega
  unfold keyOf keyV
  rw [Tryd.underlying106]
  simp only [said_keyType, Value.formed, Tryd.underlying106, said_cells]
  rw [said_types]
  simp only [Program.keyLits, Tryd.underlying106, said_cells]
  simp [w1, w2, s1, s2, Value.cells, u64_cells, str_cells]
theorem keyV_inj {c d : Cov} (h : keyV c = keyV d) : c = d := by
  obtain ⟨a, b, x, y⟩ := c
  obtain ⟨a', b', x', y'⟩ := d
  simp only [keyV, Value.agg.injEq, Array.mk.injEq, List.cons.injEq, Value.int.injEq, Value.string.injEq, true_and, and_true] at h
  obtain ⟨h1, h2, h3, h4⟩ := h
  rw [strB_inj h3, strB_inj h4, show a = a' by omega, show b = b' by omega]
/-- The map of what was told: a block that says of each cover if it is in the list. -/
def TMap (w : World) (mb : Nat) (T : List Cov) : Prop :=
  ∃ D : DataW Unit, w.ownsMap Tryd.prog 106 (plainElem Tryd.prog 4) mb T.length D ∧ IsMap D ∧
    ∀ (c : Cov) (kl : Lit), CovSmall c → keyOf Tryd.prog 106 (keyV c) = some kl → D.atKey kl (.lit (.bool false)) = .lit (.bool (decide (c ∈ T)))
theorem TMap.lt {w : World} {mb : Nat} {T : List Cov} (h : TMap w mb T) : mb < w.heap.size := by obtain ⟨D, hD, _⟩ := h; exact hD.lt
theorem TMap.keep {S : Nat → Prop} {w w' : World} {mb : Nat} {T : List Cov} (h : TMap w mb T) (ht : Tch S w w') (hS : ¬ S mb) : TMap w' mb T := by
  obtain ⟨D, ⟨es, clock, hb, F, hs, hD⟩, h2, h3⟩ := h
  exact ⟨D, ⟨es, clock, ht.blk hb hS, F, hs, hD⟩, h2, h3⟩
theorem TMap.made (w : World) : TMap (w.alloc (.map #[] 0)) w.heap.size [] :=
  ⟨.map [], World.ownsMap_made w _ _ _, isMap_empty, fun _c _kl _ _ => rfl⟩
theorem plainElem_bool_inv {P : Program} {e : TypeId} (he : P.underlying e = some .bool) {v : Value} {x : Bool} {ps : List MemPlace} (h : plainElem (H := Unit) P e v = some (.lit (.bool x), ps)) : v = .bool x := by
  unfold plainElem at h
  rw [he] at h
  cases v <;> simp at h
  rw [h.1]
theorem TMap.lookup {w : World} {mb : Nat} {T : List Cov} (h : TMap w mb T) {c : Cov} (hc : CovSmall c) :
    (Instr.lookup 97 (.map (some mb)) (keyV c) false).run Tryd.prog w = .ok (.bool (decide (c ∈ T))) w := by
  obtain ⟨D, h1, _, h3⟩ := h
  obtain ⟨kl, hk⟩ := keyOf_said hc
  have hz : (zeroValue 4).run Tryd.prog w = .ok (.bool false) w := by kernel_rfl
  obtain ⟨v, ps, hr, hv⟩ := h1.lookup saidKeyed Tryd.underlying97 hz (plainElem_bool Tryd.underlying4 false) hk
  rw [h3 c kl hc hk] at hv
  have e : v = .bool (decide (c ∈ T)) := plainElem_bool_inv Tryd.underlying4 hv
  rw [← e]; exact hr
theorem TMap.update {w : World} {mb : Nat} {T : List Cov} (h : TMap w mb T) {c : Cov} (hc : CovSmall c) (hl : T.length ≤ 1000000) :
    ∃ w', (Instr.mapUpdate 97 (.map (some mb)) (keyV c) (.bool true)).run Tryd.prog w = .ok () w' ∧ TMap w' mb (T ++ [c]) ∧ w.grownBy w' (some mb) := by
  obtain ⟨D, h1, h2, h3⟩ := h
  obtain ⟨kl, hk⟩ := keyOf_said hc
  obtain ⟨w', hr, ho, hg⟩ := h1.update saidKeyed Tryd.underlying97 (by unfold maxLen; omega) hk (plainElem_bool Tryd.underlying4 true)
  refine ⟨w', hr, ⟨_, by rw [List.length_append]; exact ho, h2.put _ _, fun d kl' hd hk' => ?_⟩, hg⟩
  by_cases e : kl' = kl
  · subst e
    have := keyV_inj (saidKeyed.inj hk' hk)
    subst this
    rw [atKey_put_same h2 (saidKeyed.key hk)]
    simp
  · have hne : d ≠ c := fun e' => by subst e'; rw [hk] at hk'; cases hk'; exact e rfl
    rw [atKey_put_other e, h3 d kl' hd hk']
    simp [hne]
end Go.Proofs.YtamhjgkigjpbhaaDoor

/- Maps in memory, by what stands at each key: any key type, any values (layer 29). -/
namespace Go.Proofs.YtamhjgkigjpbhaaDoor
open Go.RowKit Go.Maps Go.MapKept Go.ChangeMaps
open Go.WideElems (Fit rg rd rg_of findIdx_born findIdx_arr modify_last)

/-- A value reads as itself. -/
def Rv (v : Value) : Option (DataW Value × List MemPlace) := some (.held v, [])
def PutG (g g' : Lit → Option Value) (kl : Lit) (v : Value) : Prop := g' kl = some v ∧ ∀ l, l ≠ kl → g' l = g l
def DelG (g g' : Lit → Option Value) (kl : Lit) : Prop := ∀ l, l ≠ kl → g' l = g l
theorem putG_ex (g : Lit → Option Value) (kl : Lit) (v : Value) : ∃ g', PutG g g' kl v :=
  ⟨fun l => @ite _ (l = kl) (Classical.propDecidable _) (some v) (g l), if_pos rfl, fun _l hl => if_neg hl⟩
theorem delG_ex (g : Lit → Option Value) (kl : Lit) : ∃ g', DelG g g' kl ∧ g' kl = none :=
  ⟨fun l => @ite _ (l = kl) (Classical.propDecidable _) none (g l), fun _l hl => if_neg hl, if_pos rfl⟩
/-- Block mb is a map of at most n entries in which g stands. -/
def GMap (w : World) (kt : TypeId) (mb n : Nat) (g : Lit → Option Value) : Prop :=
  ∃ D : DataW Value, w.ownsMap Tryd.prog kt Rv mb n D ∧ IsMap D ∧ ∀ (key : Value) (kl : Lit), keyOf Tryd.prog kt key = some kl → ∀ zd, D.atKey kl zd = (g kl).elim zd .held
section
variable {w w' : World} {kt t e : TypeId} {mb n : Nat} {g : Lit → Option Value} {z key : Value} {kl : Lit}
theorem GMap.lt (h : GMap w kt mb n g) : mb < w.heap.size := by obtain ⟨D, hD, _⟩ := h; exact hD.lt
theorem GMap.blk (h : GMap w kt mb n g) (hb : w'.heap[mb]? = w.heap[mb]?) : GMap w' kt mb n g := by
  obtain ⟨D, ⟨es, clock, h0, F, hs, hD⟩, h2, h3⟩ := h
  exact ⟨D, ⟨es, clock, hb.trans h0, F, hs, hD⟩, h2, h3⟩
theorem GMap.keep {S : Nat → Prop} (h : GMap w kt mb n g) (ht : Tch S w w') (hS : ¬ S mb) : GMap w' kt mb n g := h.blk (ht.block _ h.lt hS)
theorem GMap.of_blk (h : w.heap[mb]? = some (.map #[] 0)) : GMap w kt mb 0 (fun _ => none) :=
  ⟨.map [], ⟨#[], 0, h, ⟨by simp, MapKept.stamped_empty 0, by simp⟩, Nat.le_refl _, rfl⟩, isMap_empty, fun _ _ _ _ => rfl⟩
theorem GMap.no_cells (h : GMap w kt mb n g) {k t : Nat} {cs : Array Value} (hk : w.heap[k]? = some (.cells cs t (0, 0))) : k ≠ mb := by
  rintro rfl
  obtain ⟨D, ⟨es, clock, hb, _⟩, _⟩ := h
  rw [hk] at hb; cases hb
theorem GMap.look (h : GMap w kt mb n g) (c : Bool) (K : Keyed Tryd.prog kt) (ht : Tryd.prog.underlying t = some (.map kt e)) (hz : (zeroValue e).run Tryd.prog w = .ok z w) (hkey : keyOf Tryd.prog kt key = some kl) :
    (Instr.lookup t (.map (some mb)) key c).run Tryd.prog w = .ok (if c then .tuple #[(g kl).getD z, .bool (g kl).isSome] else (g kl).getD z) w := by
  obtain ⟨D, ⟨es, clock, hb, F, hs, hD⟩, _, h3⟩ := h
  subst hD
  have h4 := h3 key kl hkey
  rcases Maps.fit_look c K ht hz hb F hkey with ⟨hr, _, ha⟩ | ⟨e0, y, _, _, hr, hR, ha, _⟩
  · have : g kl = none := by
      have e1 := h4 (.lit (.bool false)); rw [ha] at e1
      cases hg : g kl with
      | none => rfl
      | some v => rw [hg] at e1; cases e1
    rw [this]; exact hr
  · have : g kl = some e0.val := by
      have e1 := h4 (.lit (.bool false)); rw [ha] at e1
      simp only [Rv, Option.some.injEq] at hR
      subst hR
      cases hg : g kl with
      | none => rw [hg] at e1; cases e1
      | some v =>
        rw [hg] at e1
        have e2 : (DataW.held e0.val : DataW Value) = .held v := e1
        have e3 : e0.val = v := DataW.held.inj e2
        exact congrArg some e3.symm
    rw [this]; exact hr
theorem GMap.update (h : GMap w kt mb n g) (K : Keyed Tryd.prog kt) (ht : Tryd.prog.underlying t = some (.map kt e)) (hn : n < maxLen) (hkey : keyOf Tryd.prog kt key = some kl) (v : Value) :
    ∃ w1, (Instr.mapUpdate t (.map (some mb)) key v).run Tryd.prog w = .ok () w1 ∧ (∀ g', PutG g g' kl v → GMap w1 kt mb (n + 1) g') ∧ w.grownBy w1 (some mb) := by
  obtain ⟨D, h1, h2, h3⟩ := h
  obtain ⟨w1, hr, ho, hg⟩ := h1.update K ht hn hkey (show Rv v = some (.held v, []) from rfl)
  refine ⟨w1, hr, fun g' hp => ⟨_, ho, h2.put _ _, fun k2 kl2 hk2 zd => ?_⟩, hg⟩
  by_cases e : kl2 = kl
  · subst e
    rw [hp.1, atKey_put_same h2 (K.key hkey)]; rfl
  · rw [hp.2 _ e, atKey_put_other e]; exact h3 _ _ hk2 zd
theorem GMap.delete {ty : TypeId} (h : GMap w kt mb n g) (K : Keyed Tryd.prog kt) (ht : Tryd.prog.underlying t = some (.map kt e)) (hkey : keyOf Tryd.prog kt key = some kl) :
    ∃ w1, (Builtin.delete_ #[t, kt] ty #[.map (some mb), key]).run Tryd.prog w = .ok (.tuple #[]) w1 ∧ (∀ g', DelG g g' kl → g' kl = none → GMap w1 kt mb n g') ∧ w.grownBy w1 (some mb) := by
  obtain ⟨D, ⟨es, clock, hb, F, hs, hD⟩, h2, h3⟩ := h
  subst hD
  obtain ⟨es', hr, F', hsz, hd, _⟩ := Maps.fit_drop (ty := ty) K ht hb F hkey
  refine ⟨_, hr, fun g' hp hp0 => ⟨_, ⟨es', clock, heap_setBlock_same hb _, F', Nat.le_trans hsz hs, rfl⟩, ⟨_, rfl⟩, fun k2 kl2 hk2 zd => ?_⟩, ⟨rfl, rfl, rfl, by simp [setBlock], fun i _ hi => heap_setBlock_other hb _ (fun e => hi (by rw [e]))⟩⟩
  rw [hd, ← DataW.del_eq]
  by_cases e : kl2 = kl
  · subst e
    rw [hp0, atKey_del_same]; rfl
  · rw [hp _ e, atKey_del_other e]; exact h3 _ _ hk2 zd
/-- m[k], to be stored to later: what stands there, and the store behind it, in whatever world in which the block is the same. -/
theorem GMap.entry (h : GMap w kt mb n g) (K : Keyed Tryd.prog kt) (ht : Tryd.prog.underlying t = some (.map kt e)) (hz : ∀ u : World, (zeroValue e).run Tryd.prog u = .ok z u) (hn : n < maxLen) (hkey : keyOf Tryd.prog kt key = some kl) :
    ∃ (st : Nat) (w1 : World), (Instr.mapEntry t (.map (some mb)) key).run Tryd.prog w = .ok (.tuple #[(g kl).getD z, goInt st]) w1 ∧ w.grownBy w1 (some mb) ∧
      ∀ (w2 : World) (v : Value), w2.heap[mb]? = w1.heap[mb]? → ∃ w3, (Instr.entryStore t (.map (some mb)) (goInt st) v).run Tryd.prog w2 = .ok () w3 ∧ (∀ g', PutG g g' kl v → GMap w3 kt mb (n + 1) g') ∧ w2.grownBy w3 (some mb) := by
  have hl := h.look false K ht (hz w) hkey
  obtain ⟨D, ⟨es, clock, hb, F, hs, hD⟩, h2, h3⟩ := id h
  obtain ⟨s1, s2, _⟩ := F.stamped
  have gr : ∀ (u : World) (es0 : Array MapEntry) (c0 : Nat) (o : Obj), u.heap[mb]? = some (.map es0 c0) → u.grownBy (setBlock u mb o) (some mb) := fun u es0 c0 o hu =>
    ⟨rfl, rfl, rfl, by simp [setBlock], fun i _ hi => heap_setBlock_other hu _ (fun e => hi (by rw [e]))⟩
  have fin : ∀ (es' : Array MapEntry) (clock' : Nat) (w2 : World) (v : Value), (∃ c : Array MapEntry × Nat, w2.heap[mb]? = some (.map c.1 c.2)) → (Instr.mapUpdate t (.map (some mb)) key v).run Tryd.prog w = .ok () (setBlock w mb (.map es' clock')) →
      ∀ g', PutG g g' kl v → GMap (setBlock w2 mb (.map es' clock')) kt mb (n + 1) g' := by
    rintro es' clock' w2 v ⟨c, hc⟩ hu g' hp
    obtain ⟨w1, hr, hm, _⟩ := h.update K ht hn hkey v
    rw [hu] at hr
    injection hr with _ hr
    subst hr
    exact (hm g' hp).blk ((heap_setBlock_same hc _).trans (heap_setBlock_same hb _).symm)
  rcases K.find w hkey es.toList F.keys with ⟨h1, hno⟩ | ⟨j, e0, h1, hj0, he0⟩
  · have hl2 : (Instr.lookup t (.map (some mb)) key false).run Tryd.prog w = .ok z w := by
      simp [Instr.lookup, run_underlying ht, MapKept.run_getObj_map hb, K.check w _ hkey, h1, hz, Result.andThen]
    rw [hl2] at hl
    injection hl with hl _
    have hz1 : (g kl).getD z = z := hl.symm
    have hm1 : (setBlock w mb (.map (es.push ⟨key, z, clock⟩) (clock + 1))).heap[mb]? = some (.map (es.push ⟨key, z, clock⟩) (clock + 1)) := heap_setBlock_same hb _
    refine ⟨clock, setBlock w mb (.map (es.push ⟨key, z, clock⟩) (clock + 1)), ?_, gr _ _ _ _ hb, fun w2 v hw2 => ?_⟩
    · rw [hz1]
      simp [Instr.mapEntry, run_underlying ht, MapKept.run_getObj_map hb, K.check w _ hkey, h1, hz, MapKept.run_setObj_map _ hb, Result.andThen, setBlock]
    · rw [hm1] at hw2
      have hidx : (es.push ⟨key, z, clock⟩).findIdx? (fun e => ((e.born : Nat) : Int) == ((clock : Nat) : Int)) = some es.size := by
        rw [findIdx_arr]
        refine findIdx_born (l := (es.push ⟨key, z, clock⟩).toList) (j := es.size) (e0 := ⟨key, z, clock⟩) ?_ (by simp)
        simp only [Array.toList_push, List.map_append, List.map_cons, List.map_nil]
        refine List.nodup_append.2 ⟨s2, by simp, fun a ha c hc he => ?_⟩
        rw [List.mem_singleton] at hc
        obtain ⟨x, hx, rfl⟩ := List.mem_map.1 ha
        have := s1 x hx
        omega
      have hmod : (es.push ⟨key, z, clock⟩).modify es.size (fun e => { e with val := v }) = es.push ⟨key, v, clock⟩ := by
        apply Array.ext'
        rw [Array.toList_modify, Array.toList_push, Array.toList_push, ← Array.length_toList, modify_last]
      refine ⟨setBlock w2 mb (.map (es.push ⟨key, v, clock⟩) (clock + 1)), ?_, fin _ _ _ _ ⟨(_, _), hw2⟩ ?_, gr _ _ _ _ hw2⟩
      · simp [Instr.entryStore, MapKept.run_getObj_map hw2, asInt, asIntOf, goInt, hidx, hmod, MapKept.run_setObj_map _ hw2, Result.andThen, setBlock]
      · simp [Instr.mapUpdate, run_underlying ht, MapKept.run_getObj_map hb, K.check w _ hkey, h1, MapKept.run_setObj_map _ hb, Result.andThen, setBlock]
  · have hj : es[j]? = some e0 := by simpa using hj0
    have hl2 : (Instr.lookup t (.map (some mb)) key false).run Tryd.prog w = .ok e0.val w := by
      simp [Instr.lookup, run_underlying ht, MapKept.run_getObj_map hb, K.check w _ hkey, h1, Result.andThen]
    rw [hl2] at hl
    injection hl with hl _
    have hz1 : (g kl).getD z = e0.val := hl.symm
    have hsame : es.modify j (fun e => { e with key := key }) = es := by
      apply Array.ext'
      rw [Array.toList_modify, modify_eq_set _ _ _ _ hj0]
      have : ({ e0 with key := key } : MapEntry) = e0 := by rw [← he0]
      rw [this]
      exact Go.WideElems.set_self _ _ _ hj0
    have hm1 : (setBlock w mb (.map es clock)).heap[mb]? = some (.map es clock) := heap_setBlock_same hb _
    refine ⟨e0.born, setBlock w mb (.map es clock), ?_, gr _ _ _ _ hb, fun w2 v hw2 => ?_⟩
    · rw [hz1]
      simp [Instr.mapEntry, run_underlying ht, MapKept.run_getObj_map hb, K.check w _ hkey, h1, hj, he0, K.stays w hkey, hsame, MapKept.run_setObj_map _ hb, Result.andThen, setBlock]
    · rw [hm1] at hw2
      have hidx : es.findIdx? (fun e => ((e.born : Nat) : Int) == ((e0.born : Nat) : Int)) = some j := by
        rw [findIdx_arr]
        exact findIdx_born s2 hj0
      have hmod : es.modify j (fun e => { e with val := v }) = es.modify j (fun e' => { e' with key := key, val := v }) := by
        apply Array.ext'
        rw [Array.toList_modify, Array.toList_modify, modify_eq_set _ _ _ _ hj0, modify_eq_set _ _ _ _ hj0, ← he0]
      refine ⟨setBlock w2 mb (.map (es.modify j (fun e' => { e' with key := key, val := v })) clock), ?_, fin _ _ _ _ ⟨(_, _), hw2⟩ ?_, gr _ _ _ _ hw2⟩
      · simp [Instr.entryStore, MapKept.run_getObj_map hw2, asInt, asIntOf, goInt, hidx, hmod, MapKept.run_setObj_map _ hw2, Result.andThen, setBlock]
      · simp [Instr.mapUpdate, run_underlying ht, MapKept.run_getObj_map hb, K.check w _ hkey, h1, hj, he0, K.stays w hkey, MapKept.run_setObj_map _ hb, Result.andThen, setBlock]
end
end Go.Proofs.YtamhjgkigjpbhaaDoor
