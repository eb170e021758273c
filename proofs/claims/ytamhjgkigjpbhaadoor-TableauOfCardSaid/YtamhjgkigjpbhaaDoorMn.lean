/- Texts of one kind, in one file. -/
import Derived.Test.YtamhjgkigjpbhaaDoorCvM
import Derived.WideKeyEntry
import Derived.Test.YtamhjgkigjpbhaaDoorMm
import Derived.Test.YtamhjgkigjpbhaaDoorCvN
import Derived.Test.YtamhjgkigjpbhaaDoorCvG
import Derived.Test.YtamhjgkigjpbhaaDoorMl
import Derived.Test.YtamhjgkigjpbhaaDoorMe
import Derived.Test.YtamhjgkigjpbhaaDoorCv9

/- (XTbM) Maps in memory, by what stands at each key: any key type, any values (layer 29). -/
namespace Go.Proofs.YtamhjgkigjpbhaaDoor
open Go.RowKit Go.Maps Go.MapKept Go.ChangeMaps
open Go.WideElems (Fit rg rd rg_of findIdx_born findIdx_arr modify_last)

/-- A value reads as itself. -/
def Rv (v : Value) : Option (DataW Value × List MemPlace) := some (.held v, [])
def PutG (g g' : Lit → Option Value) (kl : Lit) (v : Value) : Prop := g' kl = some v ∧ ∀ l, l ≠ kl → g' l = g l
def DelG (g g' : Lit → Option Value) (kl : Lit) : Prop := ∀ l, l ≠ kl → g' l = g l
theorem putG_ex (g : Lit → Option Value) (kl : Lit) (v : Value) : ∃ g', PutG g g' kl v :=
  ⟨fun l => @ite _ (l = kl) (Classical.propDecidable _) (some v) (g l), if_pos rfl, fun _l hl => if_neg hl⟩
theorem delG_ex (g : Lit → Option Value) (kl : Lit) : ∃ g', DelG g g' kl ∧ g' kl = none :=
  ⟨fun l => @ite _ (l = kl) (Classical.propDecidable _) none (g l), fun _l hl => if_neg hl, if_pos rfl⟩
/-- Block mb is a map of at most n entries in which g stands. -/
def GMap (w : World) (kt : TypeId) (mb n : Nat) (g : Lit → Option Value) : Prop :=
  ∃ D : DataW Value, w.ownsMap Tryd.prog kt Rv mb n D ∧ IsMap D ∧ ∀ (key : Value) (kl : Lit), keyOf Tryd.prog kt key = some kl → ∀ zd, D.atKey kl zd = (g kl).elim zd .held
section
variable {w w' : World} {kt t e : TypeId} {mb n : Nat} {g : Lit → Option Value} {z key : Value} {kl : Lit}
theorem GMap.lt (h : GMap w kt mb n g) : mb < w.heap.size := by obtain ⟨D, hD, _⟩ := h; exact hD.lt
theorem GMap.blk (h : GMap w kt mb n g) (hb : w'.heap[mb]? = w.heap[mb]?) : GMap w' kt mb n g := by
  obtain ⟨D, ⟨es, clock, h0, F, hs, hD⟩, h2, h3⟩ := h
  exact ⟨D, ⟨es, clock, hb.trans h0, F, hs, hD⟩, h2, h3⟩
theorem GMap.keep {S : Nat → Prop} (h : GMap w kt mb n g) (ht : Tch S w w') (hS : ¬ S mb) : GMap w' kt mb n g := h.blk (ht.block _ h.lt hS)
theorem GMap.of_blk (h : w.heap[mb]? = some (.map #[] 0)) : GMap w kt mb 0 (fun _ => none) :=
  ⟨.map [], ⟨#[], 0, h, ⟨by simp, MapKept.stamped_empty 0, by simp⟩, Nat.le_refl _, rfl⟩, isMap_empty, fun _ _ _ _ => rfl⟩
theorem GMap.no_cells (h : GMap w kt mb n g) {k t : Nat} {cs : Array Value} (hk : w.heap[k]? = some (.cells cs t (0, 0))) : k ≠ mb := by
  rintro rfl
  obtain ⟨D, ⟨es, clock, hb, _⟩, _⟩ := h
  rw [hk] at hb; cases hb
theorem GMap.look (h : GMap w kt mb n g) (c : Bool) (K : Keyed Tryd.prog kt) (ht : Tryd.prog.underlying t = some (.map kt e)) (hz : (zeroValue e).run Tryd.prog w = .ok z w) (hkey : keyOf Tryd.prog kt key = some kl) :
    (Instr.lookup t (.map (some mb)) key c).run Tryd.prog w = .ok (if c then .tuple #[(g kl).getD z, .bool (g kl).isSome] else (g kl).getD z) w := by
  obtain ⟨D, ⟨es, clock, hb, F, hs, hD⟩, _, h3⟩ := h
  subst hD
  have h4 := h3 key kl hkey
  rcases Maps.fit_look c K ht hz hb F hkey with ⟨hr, _, ha⟩ | ⟨e0, y, _, _, hr, hR, ha, _⟩
  · have : g kl = none := by
      have e1 := h4 (.lit (.bool false)); rw [ha] at e1
      cases hg : g kl with
      | none => rfl
      | some v => rw [hg] at e1; cases e1
    rw [this]; exact hr
  · have : g kl = some e0.val := by
      have e1 := h4 (.lit (.bool false)); rw [ha] at e1
      simp only [Rv, Option.some.injEq] at hR
      subst hR
      cases hg : g kl with
      | none => rw [hg] at e1; cases e1
      | some v =>
        rw [hg] at e1
        have e2 : (DataW.held e0.val : DataW Value) = .held v := e1
        have e3 : e0.val = v := DataW.held.inj e2
        exact congrArg some e3.symm
    rw [this]; exact hr
theorem GMap.update (h : GMap w kt mb n g) (K : Keyed Tryd.prog kt) (ht : Tryd.prog.underlying t = some (.map kt e)) (hn : n < maxLen) (hkey : keyOf Tryd.prog kt key = some kl) (v : Value) :
    ∃ w1, (Instr.mapUpdate t (.map (some mb)) key v).run Tryd.prog w = .ok () w1 ∧ (∀ g', PutG g g' kl v → GMap w1 kt mb (n + 1) g') ∧ w.grownBy w1 (some mb) := by
  obtain ⟨D, h1, h2, h3⟩ := h
  obtain ⟨w1, hr, ho, hg⟩ := h1.update K ht hn hkey (show Rv v = some (.held v, []) from rfl)
  refine ⟨w1, hr, fun g' hp => ⟨_, ho, h2.put _ _, fun k2 kl2 hk2 zd => ?_⟩, hg⟩
  by_cases e : kl2 = kl
  · subst e
    rw [hp.1, atKey_put_same h2 (K.key hkey)]; rfl
  · rw [hp.2 _ e, atKey_put_other e]; exact h3 _ _ hk2 zd
theorem GMap.delete {ty : TypeId} (h : GMap w kt mb n g) (K : Keyed Tryd.prog kt) (ht : Tryd.prog.underlying t = some (.map kt e)) (hkey : keyOf Tryd.prog kt key = some kl) :
    ∃ w1, (Builtin.delete_ #[t, kt] ty #[.map (some mb), key]).run Tryd.prog w = .ok (.tuple #[]) w1 ∧ (∀ g', DelG g g' kl → g' kl = none → GMap w1 kt mb n g') ∧ w.grownBy w1 (some mb) := by
  obtain ⟨D, ⟨es, clock, hb, F, hs, hD⟩, h2, h3⟩ := h
  subst hD
  obtain ⟨es', hr, F', hsz, hd, _⟩ := Maps.fit_drop (ty := ty) K ht hb F hkey
  refine ⟨_, hr, fun g' hp hp0 => ⟨_, ⟨es', clock, heap_setBlock_same hb _, F', Nat.le_trans hsz hs, rfl⟩, ⟨_, rfl⟩, fun k2 kl2 hk2 zd => ?_⟩, ⟨rfl, rfl, rfl, by simp [setBlock], fun i _ hi => heap_setBlock_other hb _ (fun e => hi (by rw [e]))⟩⟩
  rw [hd, ← DataW.del_eq]
  by_cases e : kl2 = kl
  · subst e
    rw [hp0, atKey_del_same]; rfl
  · rw [hp _ e, atKey_del_other e]; exact h3 _ _ hk2 zd
/-- m[k], to be stored to later: what stands there, and the store behind it, in whatever world in which the block is the same. -/
theorem GMap.entry (h : GMap w kt mb n g) (K : Keyed Tryd.prog kt) (ht : Tryd.prog.underlying t = some (.map kt e)) (hz : ∀ u : World, (zeroValue e).run Tryd.prog u = .ok z u) (hn : n < maxLen) (hkey : keyOf Tryd.prog kt key = some kl) :
    ∃ (st : Nat) (w1 : World), (Instr.mapEntry t (.map (some mb)) key).run Tryd.prog w = .ok (.tuple #[(g kl).getD z, goInt st]) w1 ∧ w.grownBy w1 (some mb) ∧
      ∀ (w2 : World) (v : Value), w2.heap[mb]? = w1.heap[mb]? → ∃ w3, (Instr.entryStore t (.map (some mb)) (goInt st) v).run Tryd.prog w2 = .ok () w3 ∧ (∀ g', PutG g g' kl v → GMap w3 kt mb (n + 1) g') ∧ w2.grownBy w3 (some mb) := by
  have hl := h.look false K ht (hz w) hkey
  obtain ⟨D, ⟨es, clock, hb, F, hs, hD⟩, h2, h3⟩ := id h
  obtain ⟨s1, s2, _⟩ := F.stamped
  have gr : ∀ (u : World) (es0 : Array MapEntry) (c0 : Nat) (o : Obj), u.heap[mb]? = some (.map es0 c0) → u.grownBy (setBlock u mb o) (some mb) := fun u es0 c0 o hu =>
    ⟨rfl, rfl, rfl, by simp [setBlock], fun i _ hi => heap_setBlock_other hu _ (fun e => hi (by rw [e]))⟩
  have fin : ∀ (es' : Array MapEntry) (clock' : Nat) (w2 : World) (v : Value), (∃ c : Array MapEntry × Nat, w2.heap[mb]? = some (.map c.1 c.2)) → (Instr.mapUpdate t (.map (some mb)) key v).run Tryd.prog w = .ok () (setBlock w mb (.map es' clock')) →
      ∀ g', PutG g g' kl v → GMap (setBlock w2 mb (.map es' clock')) kt mb (n + 1) g' := by
    rintro es' clock' w2 v ⟨c, hc⟩ hu g' hp
    obtain ⟨w1, hr, hm, _⟩ := h.update K ht hn hkey v
    rw [hu] at hr
    injection hr with _ hr
    subst hr
    exact (hm g' hp).blk ((heap_setBlock_same hc _).trans (heap_setBlock_same hb _).symm)
  rcases K.find w hkey es.toList F.keys with ⟨h1, hno⟩ | ⟨j, e0, h1, hj0, he0⟩
  · have hl2 : (Instr.lookup t (.map (some mb)) key false).run Tryd.prog w = .ok z w := by
      simp [Instr.lookup, run_underlying ht, MapKept.run_getObj_map hb, K.check w _ hkey, h1, hz, Result.andThen]
    rw [hl2] at hl
    injection hl with hl _
    have hz1 : (g kl).getD z = z := hl.symm
    have hm1 : (setBlock w mb (.map (es.push ⟨key, z, clock⟩) (clock + 1))).heap[mb]? = some (.map (es.push ⟨key, z, clock⟩) (clock + 1)) := heap_setBlock_same hb _
    refine ⟨clock, setBlock w mb (.map (es.push ⟨key, z, clock⟩) (clock + 1)), ?_, gr _ _ _ _ hb, fun w2 v hw2 => ?_⟩
    · rw [hz1]
      simp [Instr.mapEntry, run_underlying ht, MapKept.run_getObj_map hb, K.check w _ hkey, h1, hz, MapKept.run_setObj_map _ hb, Result.andThen, setBlock]
    · rw [hm1] at hw2
      have hidx : (es.push ⟨key, z, clock⟩).findIdx? (fun e => ((e.born : Nat) : Int) == ((clock : Nat) : Int)) = some es.size := by
        rw [findIdx_arr]
        refine findIdx_born (l := (es.push ⟨key, z, clock⟩).toList) (j := es.size) (e0 := ⟨key, z, clock⟩) ?_ (by simp)
        simp only [Array.toList_push, List.map_append, List.map_cons, List.map_nil]
        refine List.nodup_append.2 ⟨s2, by simp, fun a ha c hc he => ?_⟩
        rw [List.mem_singleton] at hc
        obtain ⟨x, hx, rfl⟩ := List.mem_map.1 ha
        have := s1 x hx
        omega
      have hmod : (es.push ⟨key, z, clock⟩).modify es.size (fun e => { e with val := v }) = es.push ⟨key, v, clock⟩ := by
        apply Array.ext'
        rw [Array.toList_modify, Array.toList_push, Array.toList_push, ← Array.length_toList, modify_last]
      refine ⟨setBlock w2 mb (.map (es.push ⟨key, v, clock⟩) (clock + 1)), ?_, fin _ _ _ _ ⟨(_, _), hw2⟩ ?_, gr _ _ _ _ hw2⟩
      · simp [Instr.entryStore, MapKept.run_getObj_map hw2, asInt, asIntOf, goInt, hidx, hmod, MapKept.run_setObj_map _ hw2, Result.andThen, setBlock]
      · simp [Instr.mapUpdate, run_underlying ht, MapKept.run_getObj_map hb, K.check w _ hkey, h1, MapKept.run_setObj_map _ hb, Result.andThen, setBlock]
  · have hj : es[j]? = some e0 := by simpa using hj0
    have hl2 : (Instr.lookup t (.map (some mb)) key false).run Tryd.prog w = .ok e0.val w := by
      simp [Instr.lookup, run_underlying ht, MapKept.run_getObj_map hb, K.check w _ hkey, h1, Result.andThen]
    rw [hl2] at hl
    injection hl with hl _
    have hz1 : (g kl).getD z = e0.val := hl.symm
    have hsame : es.modify j (fun e => { e with key := key }) = es := by
      apply Array.ext'
      rw [Array.toList_modify, modify_eq_set _ _ _ _ hj0]
      have : ({ e0 with key := key } : MapEntry) = e0 := by rw [← he0]
      rw [this]
      exact Go.WideElems.set_self _ _ _ hj0
    have hm1 : (setBlock w mb (.map es clock)).heap[mb]? = some (.map es clock) := heap_setBlock_same hb _
    refine ⟨e0.born, setBlock w mb (.map es clock), ?_, gr _ _ _ _ hb, fun w2 v hw2 => ?_⟩
    · rw [hz1]
      simp [Instr.mapEntry, run_underlying ht, MapKept.run_getObj_map hb, K.check w _ hkey, h1, hj, he0, K.stays w hkey, hsame, MapKept.run_setObj_map _ hb, Result.andThen, setBlock]
    · rw [hm1] at hw2
      have hidx : es.findIdx? (fun e => ((e.born : Nat) : Int) == ((e0.born : Nat) : Int)) = some j := by
        rw [findIdx_arr]
        exact findIdx_born s2 hj0
      have hmod : es.modify j (fun e => { e with val := v }) = es.modify j (fun e' => { e' with key := key, val := v }) := by
        apply Array.ext'
        rw [Array.toList_modify, Array.toList_modify, modify_eq_set _ _ _ _ hj0, modify_eq_set _ _ _ _ hj0, ← he0]
      refine ⟨setBlock w2 mb (.map (es.modify j (fun e' => { e' with key := key, val := v })) clock), ?_, fin _ _ _ _ ⟨(_, _), hw2⟩ ?_, gr _ _ _ _ hw2⟩
      · simp [Instr.entryStore, MapKept.run_getObj_map hw2, asInt, asIntOf, goInt, hidx, hmod, MapKept.run_setObj_map _ hw2, Result.andThen, setBlock]
      · simp [Instr.mapUpdate, run_underlying ht, MapKept.run_getObj_map hb, K.check w _ hkey, h1, hj, he0, K.stays w hkey, MapKept.run_setObj_map _ hb, Result.andThen, setBlock]
end
end Go.Proofs.YtamhjgkigjpbhaaDoor

/- (XTbK) What tableau.Of holds in memory (layer 29). -/
namespace Go.Proofs.YtamhjgkigjpbhaaDoor
open Go.RowKit Go.Maps

/-- A cover of n nodes whose numbers are told in two letters. -/
structure CovOk (n : Nat) (c : Cov) : Prop where
  txt : CovTxt c
  l1 : c.2.2.1.length = n
  l2 : c.2.2.2.length = n
/-- What a cover says, as a key. -/
def kS (c : Cov) : Lit := .string (strOfNums (saidS c)).data.toList
theorem byte_inj {a b : Int} (ha : 0 ≤ a ∧ a ≤ 255) (hb : 0 ≤ b ∧ b ≤ 255) (h : UInt8.ofNat a.toNat = UInt8.ofNat b.toNat) : a = b := by
  have := congrArg UInt8.toNat h
  rw [UInt8.toNat_ofNat', UInt8.toNat_ofNat'] at this
  omega
theorem bytes_inj : ∀ {l m : List Int}, (∀ x ∈ l, 0 ≤ x ∧ x ≤ 255) → (∀ x ∈ m, 0 ≤ x ∧ x ≤ 255) → bytesI l = bytesI m → l = m
  | [], [], _, _, _ => rfl
  | [], _ :: _, _, _, h => by simp [bytesI] at h
  | _ :: _, [], _, _, h => by simp [bytesI] at h
  | a :: l, b :: m, hl, hm, h => by
    simp only [bytesI, List.map_cons, List.cons.injEq] at h
    rw [byte_inj (hl a (by simp)) (hm b (by simp)) h.1, bytes_inj (fun x hx => hl x (List.mem_cons_of_mem _ hx)) (fun x hx => hm x (List.mem_cons_of_mem _ hx)) h.2]
theorem said_range {c : Cov} (h : CovTxt c) : ∀ x ∈ saidS c, 0 ≤ x ∧ x ≤ 255 := by
  intro x hx
  unfold saidS at hx
  simp only [List.mem_append, List.mem_cons] at hx
  rcases hx with h1 | rfl | h1 | rfl | h1 | rfl | h1
  · exact (hex_no h.need).2.2 x h1
  · omega
  · exact (hex_no h.ban).2.2 x h1
  · omega
  · exact (nums_no h.next).2 x h1
  · omega
  · exact (nums_no h.now).2 x h1
theorem onL_inj {l m : List Bool} (hl : l.length = m.length) (h : onL l = onL m) : l = m := by
  refine List.ext_getElem hl (fun i h1 h2 => ?_)
  have e : (i ∈ onL l) ↔ (i ∈ onL m) := by rw [h]
  rw [onL_mem, onL_mem] at e
  have e1 : l.getD i false = l[i] := by simp [List.getD, h1]
  have e2 : m.getD i false = m[i] := by simp [List.getD, h2]
  rw [e1, e2] at e
  exact Bool.eq_iff_iff.2 e
theorem kS_inj {n : Nat} {c d : Cov} (hc : CovOk n c) (hd : CovOk n d) (h : kS c = kS d) : c = d := by
  unfold kS at h
  injection h with h
  have hs : saidS c = saidS d := bytes_inj (said_range hc.txt) (said_range hd.txt) (by simpa [strOf_bytes] using h)
  obtain ⟨h1, h2, h3, h4⟩ := said_parts hc.txt hd.txt hs
  obtain ⟨a, b, x, y⟩ := c
  obtain ⟨a', b', x', y'⟩ := d
  have e3 : x = x' := onL_inj (hc.l1.trans hd.l1.symm) h3
  have e4 : y = y' := onL_inj (hc.l2.trans hd.l2.symm) h4
  simp only at h1 h2
  rw [h1, h2, e3, e4]
theorem said_len {n : Nat} {c : Cov} (hc : CovOk n c) (hn : n ≤ 1000) : (saidS c).length ≤ 10000 := by
  have a := nums_len (onL c.2.2.1)
  have b := nums_len (onL c.2.2.2)
  have a2 := onL_len c.2.2.1
  have b2 := onL_len c.2.2.2
  have h1 : (hexL c.1).length ≤ 2 := by unfold hexL; split <;> simp
  have h2 : (hexL c.2.1).length ≤ 2 := by unfold hexL; split <;> simp
  have := hc.l1
  have := hc.l2
  unfold saidS
  simp only [List.length_append, List.length_cons]
  omega
theorem strKeyed : Keyed Tryd.prog 9 := string_keyed Tryd.underlying9
theorem key_kS {n : Nat} {c : Cov} (hc : CovOk n c) (hn : n ≤ 1000) : keyOf Tryd.prog 9 (.string (strOfNums (saidS c))) = some (kS c) :=
  Go.WideMaps.keyOf_string_mk Tryd.underlying9 (by rw [strOfNums_size]; have := said_len hc hn; unfold maxLen; omega)
theorem keyNat {q : Nat} (h : q ≤ 1000000) : keyOf Tryd.prog 3 (.int .i64 (q : Int)) = some (.int .i64 (q : Int)) :=
  keyOf_int_mk Tryd.underlying3 (by rw [Lit.wf, show IntKind.i64.min = -9223372036854775808 from rfl, show IntKind.i64.max = 9223372036854775807 from rfl]; simp; omega)
theorem intKeyed : Keyed Tryd.prog 3 := int_keyed Tryd.underlying3
/-- The numbers of the covers. -/
def NumOk (w : World) (nb n : Nat) (L : List Cov) : Prop :=
  ∃ g, GMap w 9 nb L.length g ∧ ∀ c, CovOk n c → g (kS c) = if c ∈ L then some (.int .i64 (L.idxOf c : Nat)) else none
/-- A slice of numbers that reads, from a block below B. -/
structure TSb (w : World) (B : Nat) (A : Option Addr) (n c : Nat) (xs : List Value) : Prop where
  t : TSl w 3 A n c xs
  lt : ∀ a, A = some a → a.block < B
/-- S names no block of numbers below B. -/
def SpB (S : Nat → Prop) (w : World) (B : Nat) : Prop := ∀ k cs, k < B → w.heap[k]? = some (.cells cs 3 (0, 0)) → ¬ S k
theorem SpB.of {S : Nat → Prop} {w : World} {B : Nat} (h : Spares S w 3) : SpB S w B := fun k cs _ hk => h k cs hk
theorem TSb.keep {S : Nat → Prop} {w w' : World} {B : Nat} {A : Option Addr} {n c : Nat} {xs : List Value} (h : TSb w B A n c xs) (ht : Tch S w w') (hS : SpB S w B) : TSb w' B A n c xs := by
  have hb : ∀ a, A = some a → w'.heap[a.block]? = w.heap[a.block]? := fun a ha => by
    obtain ⟨cs, hc⟩ := h.t.ty a ha
    exact ht.block _ (heap_lt hc) (hS _ _ (h.lt a ha) hc)
  refine ⟨⟨⟨h.t.sl.len, h.t.sl.cap, h.t.sl.max, h.t.sl.nil, ?_⟩, fun a ha => ?_⟩, h.lt⟩
  · rcases h.t.sl.rd with h0 | ⟨b, off, hA, hlt, hc⟩
    · exact .inl h0
    · exact .inr ⟨b, off, hA, Nat.lt_of_lt_of_le hlt ht.size, fun j u hj => (cell_of_blk (hb _ hA)).trans (hc j u hj)⟩
  · obtain ⟨cs, hc⟩ := h.t.ty a ha
    exact ⟨cs, (hb a ha).trans hc⟩
theorem TSb.of {w : World} {A : Option Addr} {n c : Nat} {xs : List Value} (h : TSl w 3 A n c xs) : TSb w w.heap.size A n c xs := ⟨h, fun a ha => by obtain ⟨cs, hc⟩ := h.ty a ha; exact heap_lt hc⟩
theorem TSb.mono {w : World} {B B' : Nat} {A : Option Addr} {n c : Nat} {xs : List Value} (h : TSb w B A n c xs) (hB : B ≤ B') : TSb w B' A n c xs := ⟨h.t, fun a ha => Nat.lt_of_lt_of_le (h.lt a ha) hB⟩
/-- The covers that were not gone on with. -/
def covV (c : Cov) (E1 : Option Addr) (e1 : Nat) (E2 : Option Addr) (e2 : Nat) : Value := .agg #[.int .u64 (c.1 : Int), .int .u64 (c.2.1 : Int), .slice E1 (onL c.2.2.1).length e1, .slice E2 (onL c.2.2.2).length e2]
def CovRd (B : Nat) (w : World) (c : Cov) (E1 : Option Addr) (e1 : Nat) (E2 : Option Addr) (e2 : Nat) : Prop :=
  TSb w B E1 (onL c.2.2.1).length e1 (icells (natI (onL c.2.2.1))) ∧ TSb w B E2 (onL c.2.2.2).length e2 (icells (natI (onL c.2.2.2)))
theorem CovRd.keep {B : Nat} {S : Nat → Prop} {w w' : World} {c : Cov} {E1 E2 : Option Addr} {e1 e2 : Nat} (h : CovRd B w c E1 e1 E2 e2) (ht : Tch S w w') (hi : SpB S w B) : CovRd B w' c E1 e1 E2 e2 := ⟨h.1.keep ht hi, h.2.keep ht hi⟩
def OpnOk (B : Nat) (w : World) (ob p : Nat) (L : List Cov) : Prop :=
  ∃ g, GMap w 3 ob L.length g ∧ ∀ q c, p ≤ q → L[q]? = some c → ∃ E1 e1 E2 e2, g (.int .i64 (q : Int)) = some (covV c E1 e1 E2 e2) ∧ CovRd B w c E1 e1 E2 e2
theorem NumOk.keep {S : Nat → Prop} {w w' : World} {nb n : Nat} {L : List Cov} (h : NumOk w nb n L) (ht : Tch S w w') (hS : ¬ S nb) : NumOk w' nb n L := by
  obtain ⟨g, h1, h2⟩ := h; exact ⟨g, h1.keep ht hS, h2⟩
theorem OpnOk.keep {B : Nat} {S : Nat → Prop} {w w' : World} {ob p : Nat} {L : List Cov} (h : OpnOk B w ob p L) (ht : Tch S w w') (hS : ¬ S ob) (hi : SpB S w B) : OpnOk B w' ob p L := by
  obtain ⟨g, h1, h2⟩ := h
  refine ⟨g, h1.keep ht hS, fun q c hq hc => ?_⟩
  obtain ⟨E1, e1, E2, e2, a, b⟩ := h2 q c hq hc
  exact ⟨E1, e1, E2, e2, a, b.keep ht hi⟩
theorem NumOk.nil {w : World} {nb n : Nat} (h : w.heap[nb]? = some (.map #[] 0)) : NumOk w nb n [] := ⟨_, GMap.of_blk h, fun c _ => by simp⟩
theorem OpnOk.nil {B : Nat} {w : World} {ob p : Nat} (h : w.heap[ob]? = some (.map #[] 0)) : OpnOk B w ob p [] := ⟨_, GMap.of_blk h, fun q c _ hc => by simp at hc⟩
theorem num_put {w : World} {nb n : Nat} {L : List Cov} {g : Lit → Option Value} (hg : ∀ c, CovOk n c → g (kS c) = if c ∈ L then some (.int .i64 (L.idxOf c : Nat)) else none) {c : Cov} (hc : CovOk n c) (hn : c ∉ L)
    (h : ∀ g', PutG g g' (kS c) (.int .i64 (L.length : Nat)) → GMap w 9 nb (L.length + 1) g') : NumOk w nb n (L ++ [c]) := by
  obtain ⟨g', hp⟩ := putG_ex g (kS c) (.int .i64 (L.length : Nat))
  refine ⟨g', by rw [List.length_append]; exact h g' hp, fun d hd => ?_⟩
  by_cases e : d = c
  · subst e
    rw [hp.1, if_pos (by simp), List.idxOf_append, if_neg hn]; simp
  · rw [hp.2 _ (fun h => e (kS_inj hd hc h)), hg d hd]
    by_cases hm : d ∈ L
    · rw [if_pos hm, if_pos (by simp [hm]), List.idxOf_append, if_pos hm]
    · rw [if_neg hm, if_neg (by simp [hm, e])]
theorem opn_put {B : Nat} {w : World} {ob p : Nat} {L : List Cov} {g : Lit → Option Value} (hg : ∀ q c, p ≤ q → L[q]? = some c → ∃ E1 e1 E2 e2, g (.int .i64 (q : Int)) = some (covV c E1 e1 E2 e2) ∧ CovRd B w c E1 e1 E2 e2) {c : Cov} {E1 E2 : Option Addr} {e1 e2 : Nat} (hr : CovRd B w c E1 e1 E2 e2)
    (h : ∀ g', PutG g g' (.int .i64 (L.length : Nat)) (covV c E1 e1 E2 e2) → GMap w 3 ob (L.length + 1) g') : OpnOk B w ob p (L ++ [c]) := by
  obtain ⟨g', hp⟩ := putG_ex g (.int .i64 (L.length : Nat)) (covV c E1 e1 E2 e2)
  refine ⟨g', by rw [List.length_append]; exact h g' hp, fun q d hq hd => ?_⟩
  by_cases e : q < L.length
  · rw [List.getElem?_append_left e] at hd
    rw [hp.2 _ (by simp; omega)]
    exact hg q d hq hd
  · have hql : q = L.length := by
      have := (List.getElem?_eq_some_iff.1 hd).1
      simp at this; omega
    subst hql
    simp at hd
    subst hd
    exact ⟨E1, e1, E2, e2, hp.1, hr⟩
theorem opn_del {B : Nat} {w : World} {ob p : Nat} {L : List Cov} {g : Lit → Option Value} (hg : ∀ q c, p ≤ q → L[q]? = some c → ∃ E1 e1 E2 e2, g (.int .i64 (q : Int)) = some (covV c E1 e1 E2 e2) ∧ CovRd B w c E1 e1 E2 e2)
    (h : ∀ g', DelG g g' (.int .i64 (p : Nat)) → g' (.int .i64 (p : Nat)) = none → GMap w 3 ob L.length g') : OpnOk B w ob (p + 1) L := by
  obtain ⟨g', hp, hp0⟩ := delG_ex g (.int .i64 (p : Nat))
  refine ⟨g', h g' hp hp0, fun q d hq hd => ?_⟩
  rw [hp _ (by simp; omega)]
  exact hg q d (by omega) hd
/-- The nodes that are there, with what those lead to that were gone on with. -/
def NdsAt (B : Nat) (w : World) (xs : List Value) (f : List Nd) (L : List Cov) (rows : List (List Nat)) : Prop :=
  ∀ (k : Nat) (c : Cov), L[k]? = some c → ∃ A cp, xs[k * 4]? = some (.int .u64 (c.1 : Int)) ∧ xs[k * 4 + 1]? = some (.int .u64 (c.2.1 : Int)) ∧ xs[k * 4 + 2]? = some (.int .u64 ((meetsN f (natI (onL c.2.2.2)) : Nat) : Int)) ∧
    xs[k * 4 + 3]? = some (.slice A (rows.getD k []).length cp) ∧ TSb w B A (rows.getD k []).length cp (icells (natI (rows.getD k [])))
theorem NdsAt.keep {B : Nat} {S : Nat → Prop} {w w' : World} {xs : List Value} {f : List Nd} {L : List Cov} {rows : List (List Nat)} (h : NdsAt B w xs f L rows) (ht : Tch S w w') (hi : SpB S w B) : NdsAt B w' xs f L rows := by
  intro k c hk
  obtain ⟨A, cp, e0, e1, e2, e3, t⟩ := h k c hk
  exact ⟨A, cp, e0, e1, e2, e3, t.keep ht hi⟩
theorem tsl_nil (w : World) (t : TypeId) : TSl w t none 0 0 [] := by
  obtain ⟨A, c, hv, h⟩ := TSl.of_own (World.ownsRow_nil w w.heap.size t 1)
  cases hv; exact h
theorem NdsAt.push {B : Nat} {w : World} {xs : List Value} {f : List Nd} {L : List Cov} {rows : List (List Nat)} (h : NdsAt B w xs f L rows) (hl : xs.length = L.length * 4) (hr : rows.length ≤ L.length) (c : Cov) {m : Int} (hm : m = ((meetsN f (natI (onL c.2.2.2)) : Nat) : Int)) :
    NdsAt B w (xs ++ [.int .u64 (c.1 : Int), .int .u64 (c.2.1 : Int), .int .u64 m, .slice none 0 0]) f (L ++ [c]) rows := by
  subst hm
  intro k d hk
  by_cases hlt : k < L.length
  · rw [List.getElem?_append_left hlt] at hk
    obtain ⟨A, cp, e0, e1, e2, e3, t⟩ := h k d hk
    refine ⟨A, cp, ?_, ?_, ?_, ?_, t⟩ <;> (rw [List.getElem?_append_left (by omega)]; assumption)
  · have hkl : k = L.length := by
      have := (List.getElem?_eq_some_iff.1 hk).1
      simp at this; omega
    subst hkl
    simp at hk
    subst hk
    have hr0 : rows.getD L.length [] = [] := by rw [List.getD_eq_getElem?_getD, List.getElem?_eq_none hr]; rfl
    rw [hr0]
    refine ⟨none, 0, ?_, ?_, ?_, ?_, ⟨tsl_nil w _, fun a ha => by cases ha⟩⟩
    · rw [List.getElem?_append_right (by omega), hl, show L.length * 4 - L.length * 4 = 0 by omega]; rfl
    · rw [List.getElem?_append_right (by omega), hl, show L.length * 4 + 1 - L.length * 4 = 1 by omega]; rfl
    · rw [List.getElem?_append_right (by omega), hl, show L.length * 4 + 2 - L.length * 4 = 2 by omega]; rfl
    · rw [List.getElem?_append_right (by omega), hl, show L.length * 4 + 3 - L.length * 4 = 3 by omega]; rfl
theorem NdsAt.setTo {B : Nat} {w : World} {xs : List Value} {f : List Nd} {L : List Cov} {rows : List (List Nat)} (h : NdsAt B w xs f L rows) (hl : xs.length = L.length * 4) (tl : List Nat) {A : Option Addr} {cp : Nat} (ht : TSb w B A tl.length cp (icells (natI tl))) :
    NdsAt B w (xs.set (rows.length * 4 + 3) (.slice A tl.length cp)) f L (rows ++ [tl]) := by
  intro k c hk
  have hkl := (List.getElem?_eq_some_iff.1 hk).1
  obtain ⟨A', cp', e0, e1, e2, e3, t⟩ := h k c hk
  rw [List.getElem?_set_ne (by omega), List.getElem?_set_ne (by omega), List.getElem?_set_ne (by omega)]
  by_cases e : k = rows.length
  · subst e
    have hg : (rows ++ [tl]).getD rows.length [] = tl := by rw [List.getD_eq_getElem?_getD, List.getElem?_append_right (Nat.le_refl _)]; simp
    rw [hg]
    exact ⟨A, cp, e0, e1, e2, by rw [List.getElem?_set_self (by omega)], ht⟩
  · have hg : (rows ++ [tl]).getD k [] = rows.getD k [] := by
      rw [List.getD_eq_getElem?_getD, List.getD_eq_getElem?_getD]
      by_cases hk2 : k < rows.length
      · rw [List.getElem?_append_left hk2]
      · rw [List.getElem?_eq_none (l := rows) (by omega), List.getElem?_eq_none (by simp; omega)]
    rw [hg]
    exact ⟨A', cp', e0, e1, e2, by rw [List.getElem?_set_ne (by omega)]; exact e3, t⟩
/-- All that tableau.Of holds. -/
structure TS (n0 B kb nb ob : Nat) (Af : Option Addr) (cf : Nat) (f : List Nd) (sets : Int) (w : World) (L : List Cov) (p : Nat) (rows : List (List Nat)) (vi vn : Value) : Prop where
  bk : w.heap[kb]? = some (.cells #[.slice Af f.length cf, .map (some nb), .map (some ob), .int .i64 sets, vi, vn] 54 (0, 0))
  num : NumOk w nb f.length L
  opn : OpnOk B w ob p L
  nds : ∃ xs, w.ownsRow n0 43 4 vn L.length xs ∧ NdsAt B w xs f L rows
  oks : ∀ c ∈ L, CovOk f.length c
  rl : rows.length ≤ L.length
  lt : n0 ≤ w.heap.size ∧ n0 ≤ kb ∧ n0 ≤ nb ∧ n0 ≤ ob ∧ nb ≠ ob
  fs : Sl w n0 2 Af f.length cf (ncells f)
section
variable {n0 B kb nb ob : Nat} {Af : Option Addr} {cf : Nat} {f : List Nd} {sets : Int} {w : World} {L : List Cov} {p : Nat} {rows : List (List Nat)} {vi vn : Value}
theorem TS.nb_lt (h : TS n0 B kb nb ob Af cf f sets w L p rows vi vn) : nb < w.heap.size := by obtain ⟨g, h1, _⟩ := h.num; exact h1.lt
theorem TS.ob_lt (h : TS n0 B kb nb ob Af cf f sets w L p rows vi vn) : ob < w.heap.size := by obtain ⟨g, h1, _⟩ := h.opn; exact h1.lt
theorem TS.nb_cells (h : TS n0 B kb nb ob Af cf f sets w L p rows vi vn) {k t : Nat} {cs : Array Value} (hk : w.heap[k]? = some (.cells cs t (0, 0))) : k ≠ nb := by obtain ⟨g, h1, _⟩ := h.num; exact h1.no_cells hk
theorem TS.ob_cells (h : TS n0 B kb nb ob Af cf f sets w L p rows vi vn) {k t : Nat} {cs : Array Value} (hk : w.heap[k]? = some (.cells cs t (0, 0))) : k ≠ ob := by obtain ⟨g, h1, _⟩ := h.opn; exact h1.no_cells hk
theorem own_cells {base e size n : Nat} {v : Value} {xs : List Value} (h : w.ownsRow base e size v n xs) {g : Nat} (hg : v.ownBlock = some g) : ∃ cs, w.heap[g]? = some (.cells cs e (0, 0)) := by
  rcases h.2 with ⟨rfl, _⟩ | ⟨k, cap, cur, rfl, _, hh, _⟩
  · simp [Value.ownBlock] at hg
  · simp [Value.ownBlock] at hg; subst hg; exact ⟨cur, hh⟩
/-- What may turn. -/
def Tk (kb nb ob : Nat) (vn : Value) (k : Nat) : Prop := k = kb ∨ k = nb ∨ k = ob ∨ vn.ownBlock = some k
theorem TS.spares (h : TS n0 B kb nb ob Af cf f sets w L p rows vi vn) {t : TypeId} (h1 : 43 ≠ t) (h2 : 54 ≠ t) : Spares (Tk kb nb ob vn) w t := by
  rintro k cs hk (rfl | rfl | rfl | hv)
  · rw [h.bk] at hk; injection hk with hk; injection hk with _ e; exact h2 e
  · exact h.nb_cells hk rfl
  · exact h.ob_cells hk rfl
  · obtain ⟨xs, ho, _⟩ := h.nds
    exact own_ne_blk ho hk h1 hv
theorem TS.keep {S : Nat → Prop} {w' : World} (h : TS n0 B kb nb ob Af cf f sets w L p rows vi vn) (ht : Tch S w w') (h1 : ¬ S kb) (h2 : ¬ S nb) (h3 : ¬ S ob) (h4 : ∀ g, vn.ownBlock = some g → ¬ S g) (hi : SpB S w B) (h0 : ∀ k, k < n0 → ¬ S k) :
    TS n0 B kb nb ob Af cf f sets w' L p rows vi vn := by
  obtain ⟨xs, ho, hn⟩ := h.nds
  exact ⟨ht.blk h.bk h1, h.num.keep ht h2, h.opn.keep ht h3 hi, ⟨xs, own_tch ho ht h4, hn.keep ht hi⟩, h.oks, h.rl, ⟨Nat.le_trans h.lt.1 ht.size, h.lt.2⟩, h.fs.tch ht h.lt.1 h0⟩
theorem TS.below {w' : World} (h : TS n0 B kb nb ob Af cf f sets w L p rows vi vn) (hb : Below w.heap.size w w') : TS n0 B kb nb ob Af cf f sets w' L p rows vi vn := by
  obtain ⟨xs, ho, _⟩ := h.nds
  have l1 := heap_lt h.bk
  have l2 := h.nb_lt
  have l3 := h.ob_lt
  exact h.keep (Tch.of_below hb) (by omega) (by omega) (by omega) (fun g hg => by have := (ho.lt g hg).2; omega) (SpB.of (spares_new w _)) (fun k hk => by have := h.lt.1; omega)
theorem TS.up {B' : Nat} (h : TS n0 B kb nb ob Af cf f sets w L p rows vi vn) (hB : B ≤ B') : TS n0 B' kb nb ob Af cf f sets w L p rows vi vn := by
  obtain ⟨g, g1, g2⟩ := h.opn
  obtain ⟨xs, ho, hn⟩ := h.nds
  refine ⟨h.bk, h.num, ⟨g, g1, fun q c hq hc => ?_⟩, ⟨xs, ho, fun k c hk => ?_⟩, h.oks, h.rl, h.lt, h.fs⟩
  · obtain ⟨E1, e1, E2, e2, a, b1, b2⟩ := g2 q c hq hc
    exact ⟨E1, e1, E2, e2, a, b1.mono hB, b2.mono hB⟩
  · obtain ⟨A, cp, e0, e1, e2, e3, t⟩ := hn k c hk
    exact ⟨A, cp, e0, e1, e2, e3, t.mono hB⟩
/-- What may turn lies at n0 or above. -/
theorem TS.tk_ge (h : TS n0 B kb nb ob Af cf f sets w L p rows vi vn) {k : Nat} (hk : Tk kb nb ob vn k) : n0 ≤ k := by
  obtain ⟨xs, ho, _⟩ := h.nds
  have := h.lt
  rcases hk with rfl | rfl | rfl | hk
  · omega
  · omega
  · omega
  · exact (ho.lt k hk).1
/-- A cover gets its number. -/
theorem TS.tell {w5 w6 w7 : World} {c : Cov} {vn' : Value} (h : TS n0 B kb nb ob Af cf f sets w L p rows vi vn) (hok : CovOk f.length c) (h5 : Tch (fun k => k = nb ∨ k = ob) w w5) (hn5 : NumOk w5 nb f.length (L ++ [c])) (ho5 : OpnOk B w5 ob p (L ++ [c]))
    (h6 : Below w5.heap.size w5 w6) {xs : List Value} (hxs : w6.ownsRow n0 43 4 vn L.length xs) (hcs : NdsAt B w6 xs f L rows) {m : Int} (hm : m = ((meetsN f (natI (onL c.2.2.2)) : Nat) : Int))
    (ho : w7.ownsRow n0 43 4 vn' (L.length + 1) (xs ++ [.int .u64 (c.1 : Int), .int .u64 (c.2.1 : Int), .int .u64 m, .slice none 0 0])) (h7 : Tch (fun k => vn.ownBlock = some k) w6 w7) (hat : vn'.ownBlock = vn.ownBlock ∨ vn'.ownBlock = some w6.heap.size) :
    TS n0 B kb nb ob Af cf f sets (w7.setCell ⟨kb, 5, none⟩ vn') (L ++ [c]) p rows vi vn' ∧ Tch (Tk kb nb ob vn) w (w7.setCell ⟨kb, 5, none⟩ vn') ∧ ∀ i, vn'.ownBlock = some i → i < w.heap.size → vn.ownBlock = some i := by
  have lk := heap_lt h.bk
  have ln := h.nb_lt
  have lo := h.ob_lt
  have z5 := h5.size
  have z6 := h6.size
  have z7 := h7.size
  have hlt := h.lt
  have bk5 := h5.blk h.bk (by rintro (e | e); exact h.nb_cells h.bk e; exact h.ob_cells h.bk e)
  have bk6 := (Tch.of_below h6).blk bk5 (by omega)
  have bk7 := h7.blk bk6 (own_ne_blk hxs bk6 (by decide))
  have s8 : Tch (fun k => k = kb) w7 (w7.setCell ⟨kb, 5, none⟩ vn') := (Tch.refl (fun k => k = kb) w7).setCell (p := ⟨kb, 5, none⟩) (fun _ => rfl) vn'
  have sp7 : SpB (fun k => vn.ownBlock = some k) w6 B := fun k cs _ hk => own_ne_blk hxs hk (by decide)
  have sp8 : SpB (fun k => k = kb) w7 B := SpB.of (spares_one bk7 (by decide))
  have hnob : ∀ b, b = nb ∨ b = ob → vn.ownBlock ≠ some b := by
    rintro b hb e
    obtain ⟨cs, hc⟩ := own_cells hxs e
    have hn6 := hn5.keep (Tch.of_below h6) (by omega)
    have ho6 := ho5.keep (Tch.of_below h6) (by omega) (SpB.of (spares_new w5 _))
    obtain ⟨g1, a1, _⟩ := hn6
    obtain ⟨g2, a2, _⟩ := ho6
    rcases hb with rfl | rfl
    · exact a1.no_cells hc rfl
    · exact a2.no_cells hc rfl
  have hnk : nb ≠ kb := fun e => h.nb_cells h.bk e.symm
  have hok' : ob ≠ kb := fun e => h.ob_cells h.bk e.symm
  have hvb : ∀ g, vn'.ownBlock = some g → g ≠ kb := fun g hg e => by
    subst e
    obtain ⟨cs, hc⟩ := own_cells ho hg
    rw [bk7] at hc; injection hc with hc; injection hc with _ e; exact absurd e (by decide)
  refine ⟨⟨?_, ?_, ?_, ?_, ?_, ?_, ?_, ?_⟩, ?_, ?_⟩
  · have := heap_setCell_same w7 kb 5 _ _ vn' bk7
    simpa using this
  · exact ((hn5.keep (Tch.of_below h6) (by omega)).keep h7 (hnob nb (.inl rfl))).keep s8 hnk
  · exact ((ho5.keep (Tch.of_below h6) (by omega) (SpB.of (spares_new w5 _))).keep h7 (hnob ob (.inr rfl)) sp7).keep s8 hok' sp8
  · exact ⟨_, by rw [List.length_append]; exact own_tch ho s8 hvb, ((hcs.push hxs.1 h.rl c hm).keep h7 sp7).keep s8 sp8⟩
  · intro d hd
    rcases List.mem_append.1 hd with hd | hd
    · exact h.oks d hd
    · rw [List.mem_singleton.1 hd]; exact hok
  · have := h.rl; rw [List.length_append]; omega
  · have := s8.size
    exact ⟨by omega, hlt.2⟩
  · have f1 := h.fs.tch h5 hlt.1 (fun b hb' e => by rcases e with e | e <;> omega)
    have f2 := f1.below h6 (by omega)
    have f3 := f2.tch h7 (by omega) (fun b hb' e => by have := (hxs.lt b e).1; omega)
    exact f3.tch s8 (by omega) (fun b hb' e => by omega)
  · have t5 : Tch (Tk kb nb ob vn) w w5 := h5.mono (fun i _ e => by rcases e with e | e; exact .inr (.inl e); exact .inr (.inr (.inl e)))
    have t6 : Tch (Tk kb nb ob vn) w w6 := t5.trans (Tch.of_below h6) (fun i hi e => by omega)
    have t7 : Tch (Tk kb nb ob vn) w w7 := t6.trans h7 (fun i _ e => .inr (.inr (.inr e)))
    exact t7.trans s8 (fun i _ e => .inl e)
  · intro i hi hlt
    rcases hat with e | e
    · rw [← e]; exact hi
    · rw [e] at hi; cases hi; omega
end
end Go.Proofs.YtamhjgkigjpbhaaDoor

/- (XTbL) The walk of (*tableau.maker).number (layer 29). -/
namespace Go.Proofs.YtamhjgkigjpbhaaDoor
open Go.RowKit Go.Maps

theorem sliceANd : SliceT Tryd.prog 26 43 4 48 :=
  SliceT.mk (z := .agg #[.int .u64 0, .int .u64 0, .int .u64 0, .slice none 0 0]) Tryd.underlying26 (by kernel_rfl) (by decide) (by decide)
theorem box6 {w : World} {b t : Nat} {p q r s u v : Value} (h : w.heap[b]? = some (.cells #[p, q, r, s, u, v] t (0, 0))) : w.cell? ⟨b, 0, none⟩ = some p ∧ w.cell? ⟨b, 1, none⟩ = some q ∧ w.cell? ⟨b, 2, none⟩ = some r ∧ w.cell? ⟨b, 3, none⟩ = some s ∧ w.cell? ⟨b, 4, none⟩ = some u ∧ w.cell? ⟨b, 5, none⟩ = some v := by
  refine ⟨?_, ?_, ?_, ?_, ?_, ?_⟩ <;> (rw [cell_of_row _ _ _ _ _ (0, 0) h]; rfl)
theorem box4' {w : World} {b t : Nat} {p q r s : Value} (h : w.heap[b]? = some (.cells #[p, q, r, s] t (0, 0))) : w.cell? ⟨b, 0, none⟩ = some p ∧ w.cell? ⟨b, 1, none⟩ = some q ∧ w.cell? ⟨b, 2, none⟩ = some r ∧ w.cell? ⟨b, 3, none⟩ = some s := by
  refine ⟨?_, ?_, ?_, ?_⟩ <;> (rw [cell_of_row _ _ _ _ _ (0, 0) h]; rfl)
/-- What number leaves. -/
def NPost (n0 B kb nb ob : Nat) (Af : Option Addr) (cf : Nat) (f : List Nd) (sets : Int) (w : World) (L : List Cov) (p : Nat) (rows : List (List Nat)) (vi vn : Value) (c : Cov) (en : Ending) (w' : World) : Prop :=
  ∃ vn', en = .returned (.int .i64 ((addC L c).idxOf c : Nat)) ∧ TS n0 B kb nb ob Af cf f sets w' (addC L c) p rows vi vn' ∧ Tch (Tk kb nb ob vn) w w' ∧ ∀ i, vn'.ownBlock = some i → i < w.heap.size → vn.ownBlock = some i
set_option maxHeartbeats 4000000 in
set_option maxRecDepth 100000 in
theorem number_any (n0 B kb nb ob : Nat) (Af : Option Addr) (cf : Nat) (f : List Nd) (sets : Int) (w : World) (L : List Cov) (p : Nat) (rows : List (List Nat)) (vi vn : Value) (c : Cov) (E1 : Option Addr) (e1 : Nat) (E2 : Option Addr) (e2 : Nat)
    (h : TS n0 B kb nb ob Af cf f sets w L p rows vi vn) (hr : CovRd B w c E1 e1 E2 e2) (hok : CovOk f.length c) (hT : TzTab w) (hfl : f.length ≤ 1000) (hL : L.length ≤ 1000) :
    Calls Tryd.prog 36 #[.pointer (some ⟨kb, 0, none⟩), .agg #[.int .u64 (c.1 : Int), .int .u64 (c.2.1 : Int), .slice E1 (onL c.2.2.1).length e1, .slice E2 (onL c.2.2.2).length e2]] w (NPost n0 B kb nb ob Af cf f sets w L p rows vi vn c) := by
  have hb0 : Below w.heap.size w (w.alloc (.cells #[.int .u64 (c.1 : Int), .int .u64 (c.2.1 : Int), .slice E1 (onL c.2.2.1).length e1, .slice E2 (onL c.2.2.2).length e2] 57)) := (Below.refl _ _).alloc (Nat.le_refl _) _
  have hx0 := heap_alloc_new w (.cells #[.int .u64 (c.1 : Int), .int .u64 (c.2.1 : Int), .slice E1 (onL c.2.2.1).length e1, .slice E2 (onL c.2.2.2).length e2] 57)
  have hz0 : (w.alloc (.cells #[.int .u64 (c.1 : Int), .int .u64 (c.2.1 : Int), .slice E1 (onL c.2.2.1).length e1, .slice E2 (onL c.2.2.2).length e2] 57)).heap.size = w.heap.size + 1 := by simp
  obtain ⟨W0, hW0⟩ : ∃ W0, w.alloc (.cells #[.int .u64 (c.1 : Int), .int .u64 (c.2.1 : Int), .slice E1 (onL c.2.2.1).length e1, .slice E2 (onL c.2.2.2).length e2] 57) = W0 := ⟨_, rfl⟩
  rw [hW0] at hb0 hx0 hz0
  have HW0 := Lib.hid hW0
  clear hW0
  have hle1 : (onL c.2.2.1).length ≤ 1000 := Nat.le_trans (onL_len _) (by rw [hok.l1]; omega)
  have hle2 : (onL c.2.2.2).length ≤ 1000 := Nat.le_trans (onL_len _) (by rw [hok.l2]; omega)
  have hrd0 : CovRd B W0 c E1 e1 E2 e2 := hr.keep (Tch.of_below hb0) (SpB.of (spares_new w _))
  have HSD := Lib.hid (said_any c.1 c.2.1 hok.txt.need hok.txt.ban E1 e1 E2 e2 (onL c.2.2.1) (onL c.2.2.2) W0 (tz_below hT hb0) hrd0.1.t.sl hrd0.2.t.sl hok.txt.next hok.txt.now hle1 hle2)
  obtain ⟨k0, k1, k2, k3⟩ := box4' hx0
  have HT := Lib.hid h
  have HOK := Lib.hid hok
  have HRD := Lib.hid hr
  clear h hok hr hT
  go_enter Tryd.func36, Tryd.ntmps36
  go_wp2_with fail
  rw [HW0.out]
  refine Calls.mono HSD.out ?_
  rintro e w1 ⟨rfl, hb1⟩
  have hb01 : Below w.heap.size w w1 := hb0.trans (hb1.mono (by omega))
  have hx1 := (hb1.block w.heap.size (by omega)).trans hx0
  have HT1 := Lib.hid (HT.out.below hb01)
  have HRD1 := Lib.hid (HRD.out.keep (Tch.of_below hb01) (SpB.of (spares_new w _)))
  obtain ⟨b0, b1, b2, b3, b4, b5⟩ := box6 HT1.out.bk
  obtain ⟨gn, hgn, hgn2⟩ := HT1.out.num
  have hlk := hgn.look true strKeyed Tryd.underlying51 (by kernel_rfl) (key_kS HOK.out (by omega)) (z := .int .i64 0)
  rw [hgn2 c HOK.out] at hlk
  have hst : strOfNums (hexL c.1 ++ 32 :: (hexL c.2.1 ++ 59 :: (numsS (onL c.2.2.1) ++ 59 :: numsS (onL c.2.2.2)))) = strOfNums (saidS c) := rfl
  rw [hst]
  obtain ⟨S, hS⟩ : ∃ S, strOfNums (saidS c) = S := ⟨_, rfl⟩
  rw [hS] at hlk ⊢
  have HS := Lib.hid hS
  clear hst hS k0 k1 k2 k3
  by_cases hm : c ∈ L
  · rw [if_pos hm] at hlk
    simp only [Option.getD_some, Option.isSome_some, if_true] at hlk
    clear hgn hgn2
    go_wp2_with fail
    go_ret
    have ha : addC L c = L := by unfold addC; rw [if_pos hm]
    refine ⟨vn, by rw [ha]; rfl, by rw [ha]; exact HT.out.below hb01, (Tch.of_below hb01).mono (fun i hi e => by omega), fun i hi _ => hi⟩
  · rw [if_neg hm] at hlk
    simp only [Option.getD_none, Option.isSome_none, if_true] at hlk
    have HN := Lib.hid hgn
    have HN2 := Lib.hid hgn2
    clear hgn hgn2
    obtain ⟨xs0, hxs0, hnd0⟩ := HT1.out.nds
    obtain ⟨An, cn, rfl, hsn⟩ := own_sl hxs0
    have HXS := Lib.hid hxs0
    have HND := Lib.hid hnd0
    clear hsn hxs0 hnd0
    obtain ⟨wd, hwd⟩ : ∃ wd, w1.drew = wd := ⟨_, rfl⟩
    have hbd : Below w1.heap.size w1 wd := by rw [← hwd]; exact (Below.refl _ _).drew
    have HWD := Lib.hid hwd
    have tnb : ∀ {a b : World} {k : Nat}, k = nb ∨ k = ob → a.grownBy b (some k) → Tch (fun k => k = nb ∨ k = ob) a b := fun hk hg => (Tch.of_grown hg).mono (fun i _ e => by injection e with e; rw [← e]; exact hk)
    have td : Tch (fun k => k = nb ∨ k = ob) w1 wd := (Tch.of_below hbd).mono (fun i hi e => by omega)
    obtain ⟨st1, w2, hr2, hg2, hst1⟩ := (HN.out.blk (w' := wd) (by rw [← hwd]; rfl)).entry strKeyed Tryd.underlying51 (z := .int .i64 0) (fun u => by kernel_rfl) (by unfold maxLen; omega) (key_kS HOK.out (by omega))
    obtain ⟨w3, hr3, hm3, hg3⟩ := hst1 w2 (.int .i64 (L.length : Nat)) rfl
    obtain ⟨go, hgo, hgo2⟩ := HT1.out.opn
    have hne := HT1.out.lt.2.2.2.2
    have t2 : Tch (fun k => k = nb ∨ k = ob) w1 w2 := td.trans (tnb (.inl rfl) hg2) (fun _ _ h => h)
    have t3 : Tch (fun k => k = nb ∨ k = ob) w1 w3 := t2.trans (tnb (.inl rfl) hg3) (fun _ _ h => h)
    have tn3 : Tch (fun k => k = nb) w1 w3 := (((Tch.of_below hbd).mono (fun i hi e => by omega)).trans ((Tch.of_grown hg2).mono (fun i _ e => by injection e with e; exact e.symm)) (fun _ _ h => h)).trans ((Tch.of_grown hg3).mono (fun i _ e => by injection e with e; exact e.symm)) (fun _ _ h => h)
    obtain ⟨st2, w4, hr4, hg4, hst2⟩ := (hgo.keep tn3 (fun e => hne e.symm)).entry intKeyed Tryd.underlying52 (z := .agg #[.int .u64 0, .int .u64 0, .slice none 0 0, .slice none 0 0]) (fun u => by kernel_rfl) (by unfold maxLen; omega) (keyNat (q := L.length) (by omega))
    obtain ⟨w5, hr5, hm5, hg5⟩ := hst2 w4 (.agg #[.int .u64 (c.1 : Int), .int .u64 (c.2.1 : Int), .slice E1 (onL c.2.2.1).length e1, .slice E2 (onL c.2.2.2).length e2]) rfl
    have t4 : Tch (fun k => k = nb ∨ k = ob) w1 w4 := t3.trans (tnb (.inr rfl) hg4) (fun _ _ h => h)
    have t5 : Tch (fun k => k = nb ∨ k = ob) w1 w5 := t4.trans (tnb (.inr rfl) hg5) (fun _ _ h => h)
    have hnc : ∀ {k t : Nat} {cs : Array Value}, w1.heap[k]? = some (.cells cs t (0, 0)) → ¬ (k = nb ∨ k = ob) := fun hk e => by rcases e with e | e; exact HT1.out.nb_cells hk e; exact HT1.out.ob_cells hk e
    have spi : SpB (fun k => k = nb ∨ k = ob) w1 B := fun k cs _ hk e => hnc hk e
    have hNum5 : NumOk w5 nb f.length (L ++ [c]) := num_put HN2.out HOK.out hm (fun g' hg' => (hm3 g' hg').keep (((Tch.of_grown hg4).mono (fun i _ e => by injection e with e; exact e.symm) : Tch (fun k => k = ob) w3 w4).trans ((Tch.of_grown hg5).mono (fun i _ e => by injection e with e; exact e.symm)) (fun _ _ h => h)) hne)
    have hOpn5 : OpnOk B w5 ob p (L ++ [c]) := opn_put (fun q d hq hd => by
      obtain ⟨F1, f1, F2, f2, a, b⟩ := hgo2 q d hq hd
      exact ⟨F1, f1, F2, f2, a, b.keep t5 spi⟩) (HRD1.out.keep t5 spi) (fun g' hg' => hm5 g' hg')
    have hxs5 := own_tch HXS.out t5 (fun g hg => by obtain ⟨cs, hc⟩ := own_cells HXS.out hg; exact hnc hc)
    have hnd5 := HND.out.keep t5 spi
    have hbk1 := HT1.out.bk
    have hbx1 := hx1
    have hbk2 := t2.blk hbk1 (hnc hbk1)
    have hbx2 := t2.blk hbx1 (hnc hbx1)
    have hbk3 := t3.blk hbk1 (hnc hbk1)
    have hbx3 := t3.blk hbx1 (hnc hbx1)
    have hbk4 := t4.blk hbk1 (hnc hbk1)
    have hbx4 := t4.blk hbx1 (hnc hbx1)
    have hbk5 := t5.blk hbk1 (hnc hbk1)
    have hbx5 := t5.blk hbx1 (hnc hbx1)
    have hfs5 : Sl w5 w5.heap.size 2 Af f.length cf (ncells f) := ((HT1.out.fs.tch t5 HT1.out.lt.1 (fun b hb e => by have := HT1.out.lt; rcases e with e | e <;> omega)).up (by have := t5.size; have := HT1.out.lt.1; omega))
    have hrd5 := HRD1.out.keep t5 spi
    have hn05 : n0 ≤ w5.heap.size := by have := t5.size; have := HT1.out.lt.1; omega
    obtain ⟨we, hwe⟩ : ∃ we, w5.drew = we := ⟨_, rfl⟩
    have hbe : Below w5.heap.size w5 we := by rw [← hwe]; exact (Below.refl _ _).drew
    have HWE := Lib.hid hwe
    have HM := Lib.hid (meets_any Af cf f (c.1 : Int) (c.2.1 : Int) (.slice E1 (onL c.2.2.1).length e1) E2 (onL c.2.2.2).length e2 (natI (onL c.2.2.2)) we w5.heap.size (hfs5.below hbe (Nat.le_refl _)) (hrd5.2.t.sl.below hbe (Nat.le_refl _)) (by simp [natI]) hbe.size (by omega) (by omega))
    have HXS5 := Lib.hid hxs5
    have HND5 := Lib.hid hnd5
    have HN5 := Lib.hid hNum5
    have HO5 := Lib.hid hOpn5
    have HT5 := Lib.hid t5
    clear hwd hwe hm3 hm5 hst1 hst2 hgo hgo2 td t2 t3 tn3 t4 t5 hnc spi hNum5 hOpn5 hxs5 hnd5 hfs5 hrd5 tnb hg2 hg3 hg4 hg5
    rw [HS.out] at hr2
    unfold goInt at hr2 hr3 hr4 hr5
    generalize (gn (kS c)).getD (.int .i64 0) = z1 at hr2
    generalize (go (.int .i64 (L.length : Nat))).getD (.agg #[.int .u64 0, .int .u64 0, .slice none 0 0, .slice none 0 0]) = z2 at hr4
    go_wp2_with fail
    refine wp_region_held_drew (S := fun w' => w'.cell? ⟨kb, 1, none⟩ = some (.map (some nb)) ∧ w'.cell? ⟨kb, 2, none⟩ = some (.map (some ob)) ∧ w'.cell? ⟨w.heap.size, 0, none⟩ = some (.int .u64 (c.1 : Int)) ∧ w'.cell? ⟨w.heap.size, 1, none⟩ = some (.int .u64 (c.2.1 : Int)) ∧ w'.cell? ⟨w.heap.size, 2, none⟩ = some (.slice E1 (onL c.2.2.1).length e1) ∧ w'.cell? ⟨w.heap.size, 3, none⟩ = some (.slice E2 (onL c.2.2.2).length e2)) (by kernel_rfl) ⟨(box6 hbk1).2.1, (box6 hbk1).2.2.1, box4' hbx1⟩ (fun hS => ?_)
    refine wpAnyH_takeD (i := 0) (v := ?_) rfl (by kernel_rfl) (by kernel_rfl) (by kernel_rfl) (fun _ _ _ h => h) (Or.inl ⟨by kernel_rfl, ?_⟩) hS ?_
    rotate_left 1
    · (intro w' hSw; (try dsimp only at hSw); go_simp; try (with_reducible rfl))
    try simp only [Act.put, List.setIfInBounds_toArray, List.set_cons_zero, List.set_cons_succ]
    refine wpAnyH_takeD (i := 1) (v := ?_) rfl (by kernel_rfl) (by kernel_rfl) (by kernel_rfl) (fun _ _ _ h => h) (Or.inl ⟨by kernel_rfl, ?_⟩) hS ?_
    rotate_left 1
    · (intro w' hSw; (try dsimp only at hSw); go_simp; try (with_reducible rfl))
    try simp only [Act.put, List.setIfInBounds_toArray, List.set_cons_zero, List.set_cons_succ]
    refine wpAnyH_takeD (i := 2) (v := ?_) rfl (by kernel_rfl) (by kernel_rfl) (by kernel_rfl) (fun _ _ _ h => h) (Or.inl ⟨by kernel_rfl, ?_⟩) hS ?_
    rotate_left 1
    · (intro w' hSw; (try dsimp only at hSw); go_simp; try (with_reducible rfl))
    try simp only [Act.put, List.setIfInBounds_toArray, List.set_cons_zero, List.set_cons_succ]
    refine wpAnyH_takeD (i := 3) (v := ?_) rfl (by kernel_rfl) (by kernel_rfl) (by kernel_rfl) (fun _ _ _ h => h) (Or.inl ⟨by kernel_rfl, ?_⟩) hS ?_
    rotate_left 1
    · (intro w' hSw; (try dsimp only at hSw); go_simp; try (with_reducible rfl))
    try simp only [Act.put, List.setIfInBounds_toArray, List.set_cons_zero, List.set_cons_succ]
    refine wpAnyH_takeD (i := 4) (v := ?_) rfl (by kernel_rfl) (by kernel_rfl) (by kernel_rfl) (fun _ _ _ h => h) (Or.inl ⟨by kernel_rfl, ?_⟩) hS ?_
    rotate_left 1
    · (intro w' hSw; (try dsimp only at hSw); go_simp; try (with_reducible rfl))
    try simp only [Act.put, List.setIfInBounds_toArray, List.set_cons_zero, List.set_cons_succ]
    refine wpAnyH_takeD (i := 5) (v := ?_) rfl (by kernel_rfl) (by kernel_rfl) (by kernel_rfl) (fun _ _ _ h => h) (Or.inl ⟨by kernel_rfl, ?_⟩) hS ?_
    rotate_left 1
    · (intro w' hSw; (try dsimp only at hSw); go_simp; try (with_reducible rfl))
    try simp only [Act.put, List.setIfInBounds_toArray, List.set_cons_zero, List.set_cons_succ]
    refine wpAnyH_takeD (i := 6) (v := ?_) rfl (by kernel_rfl) (by kernel_rfl) (by kernel_rfl) (fun _ _ _ h => h) (Or.inl ⟨by kernel_rfl, ?_⟩) hS ?_
    rotate_left 1
    · (intro w' hSw; (try dsimp only at hSw); go_simp; try (with_reducible rfl))
    try simp only [Act.put, List.setIfInBounds_toArray, List.set_cons_zero, List.set_cons_succ]
    refine wpAnyH_takeD (i := 7) (v := ?_) rfl (by kernel_rfl) (by kernel_rfl) (by kernel_rfl) (fun _ _ _ h => h) (Or.inl ⟨by kernel_rfl, ?_⟩) hS ?_
    rotate_left 1
    · (intro w' hSw; (try dsimp only at hSw); go_simp; try (with_reducible rfl))
    try simp only [Act.put, List.setIfInBounds_toArray, List.set_cons_zero, List.set_cons_succ]
    refine wpAnyH_takeD (i := 8) (v := ?_) rfl (by kernel_rfl) (by kernel_rfl) (by kernel_rfl) (fun _ _ _ h => h) (Or.inl ⟨by kernel_rfl, ?_⟩) hS ?_
    rotate_left 1
    · (intro w' hSw; (try dsimp only at hSw); go_simp; try (with_reducible rfl))
    try simp only [Act.put, List.setIfInBounds_toArray, List.set_cons_zero, List.set_cons_succ]
    refine wpAnyH_takeD (i := 9) (v := ?_) rfl (by kernel_rfl) (by kernel_rfl) (by kernel_rfl) (fun _ _ _ h => h) (Or.inl ⟨by kernel_rfl, ?_⟩) hS ?_
    rotate_left 1
    · (intro w' hSw; (try dsimp only at hSw); go_simp; try (with_reducible rfl))
    try simp only [Act.put, List.setIfInBounds_toArray, List.set_cons_zero, List.set_cons_succ]
    refine wpAnyH_takeD (i := 10) (v := ?_) rfl (by kernel_rfl) (by kernel_rfl) (by kernel_rfl) (fun _ _ _ h => h) (Or.inl ⟨by kernel_rfl, ?_⟩) hS ?_
    rotate_left 1
    · (intro w' hSw; (try dsimp only at hSw); go_simp; try (with_reducible rfl))
    try simp only [Act.put, List.setIfInBounds_toArray, List.set_cons_zero, List.set_cons_succ]
    refine wpAnyH_takeD (i := 11) (v := ?_) rfl (by kernel_rfl) (by kernel_rfl) (by kernel_rfl) (fun _ _ _ h => h) (Or.inl ⟨by kernel_rfl, ?_⟩) hS ?_
    rotate_left 1
    · (intro w' hSw; (try dsimp only at hSw); go_simp; try (with_reducible rfl))
    try simp only [Act.put, List.setIfInBounds_toArray, List.set_cons_zero, List.set_cons_succ]
    refine wpAnyH_oneD (i := 12) rfl (by kernel_rfl) (fun K hK => ?_)
    rw [HWD.out]
    go_simp
    try rw [hr2]
    try dsimp only [Oper.upon, Result.andThen]
    refine hK.out _ _ ⟨(box6 hbk2).2.1, (box6 hbk2).2.2.1, box4' hbx2⟩ (fun hS => ?_)
    clear hK
    try simp only [Act.put, List.setIfInBounds_toArray, List.set_cons_zero, List.set_cons_succ]
    refine wpAnyH_takeD (i := 13) (v := ?_) rfl (by kernel_rfl) (by kernel_rfl) (by kernel_rfl) (fun _ _ _ h => h) (Or.inl ⟨by kernel_rfl, ?_⟩) hS ?_
    rotate_left 1
    · (intro w' hSw; (try dsimp only at hSw); go_simp; try (with_reducible rfl))
    try simp only [Act.put, List.setIfInBounds_toArray, List.set_cons_zero, List.set_cons_succ]
    refine wpAnyH_oneD (i := 14) rfl (by kernel_rfl) (fun K hK => ?_)
    go_simp
    try rw [hr3]
    try dsimp only [Oper.upon, Result.andThen]
    refine hK.out _ _ ⟨(box6 hbk3).2.1, (box6 hbk3).2.2.1, box4' hbx3⟩ (fun hS => ?_)
    clear hK
    try simp only [Act.put, List.setIfInBounds_toArray, List.set_cons_zero, List.set_cons_succ]
    refine wpAnyH_oneD (i := 15) rfl (by kernel_rfl) (fun K hK => ?_)
    go_simp
    try rw [hr4]
    try dsimp only [Oper.upon, Result.andThen]
    refine hK.out _ _ ⟨(box6 hbk4).2.1, (box6 hbk4).2.2.1, box4' hbx4⟩ (fun hS => ?_)
    clear hK
    try simp only [Act.put, List.setIfInBounds_toArray, List.set_cons_zero, List.set_cons_succ]
    refine wpAnyH_takeD (i := 16) (v := ?_) rfl (by kernel_rfl) (by kernel_rfl) (by kernel_rfl) (fun _ _ _ h => h) (Or.inl ⟨by kernel_rfl, ?_⟩) hS ?_
    rotate_left 1
    · (intro w' hSw; (try dsimp only at hSw); go_simp; try (with_reducible rfl))
    try simp only [Act.put, List.setIfInBounds_toArray, List.set_cons_zero, List.set_cons_succ]
    refine wpAnyH_oneD (i := 17) rfl (by kernel_rfl) (fun K hK => ?_)
    go_simp
    try rw [hr5]
    try dsimp only [Oper.upon, Result.andThen]
    refine hK.out _ _ ⟨(box6 hbk5).2.1, (box6 hbk5).2.2.1, box4' hbx5⟩ (fun hS => ?_)
    clear hK
    try simp only [Act.put, List.setIfInBounds_toArray, List.set_cons_zero, List.set_cons_succ]
    refine wpAnyH_done (by kernel_rfl) ?_ _
    clear hr2 hr3 hr4 hr5
    go_wp2_with fail
    refine wp_region_T (S := fun w' => w'.cell? ⟨kb, 0, none⟩ = some (.slice Af f.length cf) ∧ w'.cell? ⟨kb, 5, none⟩ = some (.slice An L.length cn) ∧ w'.cell? ⟨w.heap.size, 0, none⟩ = some (.int .u64 (c.1 : Int)) ∧ w'.cell? ⟨w.heap.size, 1, none⟩ = some (.int .u64 (c.2.1 : Int)) ∧ w'.cell? ⟨w.heap.size, 2, none⟩ = some (.slice E1 (onL c.2.2.1).length e1) ∧ w'.cell? ⟨w.heap.size, 3, none⟩ = some (.slice E2 (onL c.2.2.2).length e2)) 22 (by kernel_rfl) (⟨(box6 hbk5).1, (box6 hbk5).2.2.2.2.2, box4' hbx5⟩) (fun hS => ?_)
    refine wpAnyT_takeD (i := 0) (v := ?_) rfl (by kernel_rfl) (by kernel_rfl) (by kernel_rfl) (by kernel_rfl) (fun _ _ _ h => h) (Or.inl ⟨by kernel_rfl, ?_⟩) hS ?_
    rotate_left 1
    · (intro w' hSw; (try dsimp only at hSw); go_simp; try (with_reducible rfl))
    try simp only [Act.put, List.setIfInBounds_toArray, List.set_cons_zero, List.set_cons_succ]
    refine wpAnyT_takeD (i := 1) (v := ?_) rfl (by kernel_rfl) (by kernel_rfl) (by kernel_rfl) (by kernel_rfl) (fun _ _ _ h => h) (Or.inl ⟨by kernel_rfl, ?_⟩) hS ?_
    rotate_left 1
    · (intro w' hSw; (try dsimp only at hSw); go_simp; try (with_reducible rfl))
    try simp only [Act.put, List.setIfInBounds_toArray, List.set_cons_zero, List.set_cons_succ]
    refine wpAnyT_takeD (i := 2) (v := ?_) rfl (by kernel_rfl) (by kernel_rfl) (by kernel_rfl) (by kernel_rfl) (fun _ _ _ h => h) (Or.inl ⟨by kernel_rfl, ?_⟩) hS ?_
    rotate_left 1
    · (intro w' hSw; (try dsimp only at hSw); go_simp; try (with_reducible rfl))
    try simp only [Act.put, List.setIfInBounds_toArray, List.set_cons_zero, List.set_cons_succ]
    refine wpAnyT_takeD (i := 3) (v := ?_) rfl (by kernel_rfl) (by kernel_rfl) (by kernel_rfl) (by kernel_rfl) (fun _ _ _ h => h) (Or.inl ⟨by kernel_rfl, ?_⟩) hS ?_
    rotate_left 1
    · (intro w' hSw; (try dsimp only at hSw); go_simp; try (with_reducible rfl))
    try simp only [Act.put, List.setIfInBounds_toArray, List.set_cons_zero, List.set_cons_succ]
    refine wpAnyT_takeD (i := 4) (v := ?_) rfl (by kernel_rfl) (by kernel_rfl) (by kernel_rfl) (by kernel_rfl) (fun _ _ _ h => h) (Or.inl ⟨by kernel_rfl, ?_⟩) hS ?_
    rotate_left 1
    · (intro w' hSw; (try dsimp only at hSw); go_simp; try (with_reducible rfl))
    try simp only [Act.put, List.setIfInBounds_toArray, List.set_cons_zero, List.set_cons_succ]
    refine wpAnyT_takeD (i := 5) (v := ?_) rfl (by kernel_rfl) (by kernel_rfl) (by kernel_rfl) (by kernel_rfl) (fun _ _ _ h => h) (Or.inl ⟨by kernel_rfl, ?_⟩) hS ?_
    rotate_left 1
    · (intro w' hSw; (try dsimp only at hSw); go_simp; try (with_reducible rfl))
    try simp only [Act.put, List.setIfInBounds_toArray, List.set_cons_zero, List.set_cons_succ]
    refine wpAnyT_takeD (i := 6) (v := ?_) rfl (by kernel_rfl) (by kernel_rfl) (by kernel_rfl) (by kernel_rfl) (fun _ _ _ h => h) (Or.inl ⟨by kernel_rfl, ?_⟩) hS ?_
    rotate_left 1
    · (intro w' hSw; (try dsimp only at hSw); go_simp; try (with_reducible rfl))
    try simp only [Act.put, List.setIfInBounds_toArray, List.set_cons_zero, List.set_cons_succ]
    refine wpAnyT_takeD (i := 7) (v := ?_) rfl (by kernel_rfl) (by kernel_rfl) (by kernel_rfl) (by kernel_rfl) (fun _ _ _ h => h) (Or.inl ⟨by kernel_rfl, ?_⟩) hS ?_
    rotate_left 1
    · (intro w' hSw; (try dsimp only at hSw); go_simp; try (with_reducible rfl))
    try simp only [Act.put, List.setIfInBounds_toArray, List.set_cons_zero, List.set_cons_succ]
    refine wpAnyT_takeD (i := 8) (v := ?_) rfl (by kernel_rfl) (by kernel_rfl) (by kernel_rfl) (by kernel_rfl) (fun _ _ _ h => h) (Or.inl ⟨by kernel_rfl, ?_⟩) hS ?_
    rotate_left 1
    · (intro w' hSw; (try dsimp only at hSw); go_simp; try (with_reducible rfl))
    try simp only [Act.put, List.setIfInBounds_toArray, List.set_cons_zero, List.set_cons_succ]
    refine wpAnyT_takeD (i := 9) (v := ?_) rfl (by kernel_rfl) (by kernel_rfl) (by kernel_rfl) (by kernel_rfl) (fun _ _ _ h => h) (Or.inl ⟨by kernel_rfl, ?_⟩) hS ?_
    rotate_left 1
    · (intro w' hSw; (try dsimp only at hSw); go_simp; try (with_reducible rfl))
    try simp only [Act.put, List.setIfInBounds_toArray, List.set_cons_zero, List.set_cons_succ]
    refine wpAnyT_takeD (i := 10) (v := ?_) rfl (by kernel_rfl) (by kernel_rfl) (by kernel_rfl) (by kernel_rfl) (fun _ _ _ h => h) (Or.inl ⟨by kernel_rfl, ?_⟩) hS ?_
    rotate_left 1
    · (intro w' hSw; (try dsimp only at hSw); go_simp; try (with_reducible rfl))
    try simp only [Act.put, List.setIfInBounds_toArray, List.set_cons_zero, List.set_cons_succ]
    refine wpAnyT_takeD (i := 11) (v := ?_) rfl (by kernel_rfl) (by kernel_rfl) (by kernel_rfl) (by kernel_rfl) (fun _ _ _ h => h) (Or.inl ⟨by kernel_rfl, ?_⟩) hS ?_
    rotate_left 1
    · (intro w' hSw; (try dsimp only at hSw); go_simp; try (with_reducible rfl))
    try simp only [Act.put, List.setIfInBounds_toArray, List.set_cons_zero, List.set_cons_succ]
    refine wpAnyT_takeD (i := 12) (v := ?_) rfl (by kernel_rfl) (by kernel_rfl) (by kernel_rfl) (by kernel_rfl) (fun _ _ _ h => h) (Or.inl ⟨by kernel_rfl, ?_⟩) hS ?_
    rotate_left 1
    · (intro w' hSw; (try dsimp only at hSw); go_simp; try (with_reducible rfl))
    try simp only [Act.put, List.setIfInBounds_toArray, List.set_cons_zero, List.set_cons_succ]
    refine wpAnyT_takeD (i := 13) (v := ?_) rfl (by kernel_rfl) (by kernel_rfl) (by kernel_rfl) (by kernel_rfl) (fun _ _ _ h => h) (Or.inl ⟨by kernel_rfl, ?_⟩) hS ?_
    rotate_left 1
    · (intro w' hSw; (try dsimp only at hSw); go_simp; try (with_reducible rfl))
    try simp only [Act.put, List.setIfInBounds_toArray, List.set_cons_zero, List.set_cons_succ]
    refine wpAnyT_takeD (i := 14) (v := ?_) rfl (by kernel_rfl) (by kernel_rfl) (by kernel_rfl) (by kernel_rfl) (fun _ _ _ h => h) (Or.inl ⟨by kernel_rfl, ?_⟩) hS ?_
    rotate_left 1
    · (intro w' hSw; (try dsimp only at hSw); go_simp; try (with_reducible rfl))
    try simp only [Act.put, List.setIfInBounds_toArray, List.set_cons_zero, List.set_cons_succ]
    refine wpAnyT_oneD (i := 15) rfl (by kernel_rfl) (by decide) (fun K hK => ?_)
    go_simp
    rw [HWE.out]
    refine Calls.mono HM.out ?_
    rintro e w6 ⟨rfl, hb6'⟩
    have hb6 : Below w5.heap.size w5 w6 := hbe.trans (hb6'.mono hbe.size)
    clear hb6'
    have hbk6 := (hb6.block kb (heap_lt hbk5)).trans hbk5
    have hbx6 := (hb6.block _ (heap_lt hbx5)).trans hbx5
    dsimp only
    refine hK.out _ _ ⟨(box6 hbk6).1, (box6 hbk6).2.2.2.2.2, box4' hbx6⟩ (fun hS => ?_)
    clear hK
    try simp only [Act.put, List.setIfInBounds_toArray, List.set_cons_zero, List.set_cons_succ]
    refine wpAnyT_takeD (i := 16) (v := ?_) rfl (by kernel_rfl) (by kernel_rfl) (by kernel_rfl) (by kernel_rfl) (fun _ _ _ h => h) (Or.inl ⟨by kernel_rfl, ?_⟩) hS ?_
    rotate_left 1
    · (intro w' hSw; (try dsimp only at hSw); go_simp; try (with_reducible rfl))
    try simp only [Act.put, List.setIfInBounds_toArray, List.set_cons_zero, List.set_cons_succ]
    refine wpAnyT_oneD (i := 17) rfl (by kernel_rfl) (by decide) (fun K hK => ?_)
    go_simp
    obtain ⟨W7, hW7⟩ : ∃ V, V = w6.alloc (.cells #[.int .u64 (c.1 : Int), .int .u64 (c.2.1 : Int), .int .u64 ((meetsN f (natI (onL c.2.2.2)) : Nat) : Int), .slice none 0 0] 43) := ⟨_, rfl⟩
    have hq7 : Below w6.heap.size w6 W7 := by rw [hW7]; exact (Below.refl _ _).alloc (Nat.le_refl _) _
    have hn7 : W7.heap[w6.heap.size]? = some (.cells #[.int .u64 (c.1 : Int), .int .u64 (c.2.1 : Int), .int .u64 ((meetsN f (natI (onL c.2.2.2)) : Nat) : Int), .slice none 0 0] 43 (0, 0)) := by rw [hW7]; exact heap_alloc_new _ _
    rw [← hW7]
    clear hW7
    have hb7 : Below w5.heap.size w5 W7 := hb6.trans (hq7.mono hb6.size)
    have hbk7 := (hb7.block kb (heap_lt hbk5)).trans hbk5
    have hbx7 := (hb7.block _ (heap_lt hbx5)).trans hbx5
    have hxs7 := own_tch HXS5.out (Tch.of_below hb7) (fun g hg => by have := (HXS5.out.lt g hg).2; omega)
    have hnd7 := HND5.out.keep (Tch.of_below hb7) (SpB.of (spares_new _ _))
    refine hK.out _ _ ⟨(box6 hbk7).1, (box6 hbk7).2.2.2.2.2, box4' hbx7⟩ (fun hS => ?_)
    clear hK
    try simp only [Act.put, List.setIfInBounds_toArray, List.set_cons_zero, List.set_cons_succ]
    refine wpAnyT_oneD (i := 18) rfl (by kernel_rfl) (by decide) (fun K hK => ?_)
    refine step_push rfl (.tmp 49) (.tmp 61) 26 rfl n0 43 4 48 sliceANd _ _ _ hxs7 (by rfl) w6.heap.size #[.int .u64 (c.1 : Int), .int .u64 (c.2.1 : Int), .int .u64 ((meetsN f (natI (onL c.2.2.2)) : Nat) : Int), .slice none 0 0] (by rfl) hn7 rfl (by simp [Value.oneCell']) (by omega) (by omega) (by have := hb7.size; omega) ?_
    intro v8 W8 ho8 ht8 hat8 hne8
    obtain ⟨A8, c8, rfl, -⟩ := own_sl ho8
    have hbk8 := ht8.blk hbk7 (own_ne_blk hxs7 hbk7 (by decide))
    have hbx8 := ht8.blk hbx7 (own_ne_blk hxs7 hbx7 (by decide))
    have kf8 := frozen_of_row _ _ 5 _ _ hbk8
    obtain ⟨u0, u1, u2, u3, u4, u5⟩ := box6 hbk8
    refine hK.out _ _ ⟨u0, u5, box4' hbx8⟩ (fun hS => ?_)
    clear hK
    try simp only [Act.put, List.setIfInBounds_toArray, List.set_cons_zero, List.set_cons_succ]
    refine wpAnyT_oneD (i := 19) rfl (by kernel_rfl) (by decide) (fun K hK => ?_)
    go_simp
    refine hK.out _ _ ⟨u0, u5, box4' hbx8⟩ (fun hS => ?_)
    clear hK
    try simp only [Act.put, List.setIfInBounds_toArray, List.set_cons_zero, List.set_cons_succ]
    refine wpAnyT_oneD (i := 20) rfl (by kernel_rfl) (by decide) (fun K hK => ?_)
    go_simp
    refine hK.out _ _ ⟨u0, u5, box4' hbx8⟩ (fun hS => ?_)
    clear hK
    try simp only [Act.put, List.setIfInBounds_toArray, List.set_cons_zero, List.set_cons_succ]
    refine wpAnyT_oneD (i := 21) rfl (by kernel_rfl) (by decide) (fun K hK => ?_)
    go_simp
    refine hK.out _ _ ⟨u0, u5, box4' hbx8⟩ (fun hS => ?_)
    clear hK
    try simp only [Act.put, List.setIfInBounds_toArray, List.set_cons_zero, List.set_cons_succ]
    refine wpAnyT_endD rfl (by kernel_rfl) (by kernel_rfl) (fun K hK => ?_)
    go_simp
    refine hK.out _ _ ?_
    clear hK
    go_wp2_with fail
    go_ret
    obtain ⟨hA, hB, hC⟩ := HT1.out.tell HOK.out HT5.out HN5.out HO5.out hb7 hxs7 hnd7 rfl ho8 ht8 hat8
    have ha : addC L c = L ++ [c] := by unfold addC; rw [if_neg hm]
    refine ⟨.slice A8 (L.length + 1) c8, ?_, by rw [ha]; exact hA, ((Tch.of_below hb01).mono (fun i hi e => by omega)).trans hB (fun _ _ h => h), fun i hi hlt => hC i hi (by have := hb01.size; omega)⟩
    rw [ha, List.idxOf_append, if_neg hm]
    simp
end Go.Proofs.YtamhjgkigjpbhaaDoor

/- (XTbQ) How covers are numbered one after another (layer 29); plain. -/
namespace Go.Proofs.YtamhjgkigjpbhaaDoor

theorem leaves_sm {f : List Nd} (hN : isN f = true) (n : Nat) {w : Way} (hw : WOk f w) (h1 : w.need < 256) (h2 : w.ban < 256) : ∀ y ∈ leaves f n w, y.need < 256 ∧ y.ban < 256 := by
  intro y hy
  exact way_ind (kidsOk_of hN) (fun w y => w.need < 256 → w.ban < 256 → y.need < 256 ∧ y.ban < 256) (fun w _ _ a b => ⟨a, b⟩) (fun w j t x y hw hs hx _ ih a b => by
    obtain ⟨hm, _, hj⟩ := made_ok hw hs
    obtain ⟨c, d, _⟩ := split_small (ndF hN hj) (w := w.made j t) a b x hx
    exact ih c d) n w hw y hy h1 h2
theorem leaves_13 {f : List Nd} (hN : isN f = true) (hl : f.length ≤ 13) (n : Nat) {w : Way} (hw : WOk f w) : (leaves f n w).length ≤ 10000 := by
  have h1 := leaves_len (kidsOk_of hN) n w hw
  have h0 : brF f w.now ≤ 13 := Nat.le_trans (List.countP_le_length) (by rw [List.length_range]; exact hl)
  have h2 : 2 ^ brF f w.now ≤ 2 ^ 13 := Nat.pow_le_pow_right (by omega) h0
  have : (2 : Nat) ^ 13 = 8192 := by decide
  omega
theorem onL_lt {n : Nat} {l : List Bool} (h : l.length = n) : ∀ x ∈ onL l, x < n := fun x hx => by
  unfold onL at hx
  have := List.mem_range.1 (List.mem_filter.1 hx).1
  omega
/-- What the covers of parts are. -/
theorem cov_facts {f : List Nd} (hN : isN f = true) (hl : f.length ≤ 13) {ps : List Nat} (hp : ∀ x ∈ ps, x < f.length) :
    (coversL f ps).Nodup ∧ (∀ c ∈ coversL f ps, CovOk f.length c) ∧ (coversL f ps).length ≤ 10000 := by
  obtain ⟨hn, hc⟩ := coversL_rises (kidsOk_of hN) hp
  refine ⟨hn, fun c hcm => ?_, ?_⟩
  · obtain ⟨_, _, d, e⟩ := hc c hcm
    have hsm : c.1 < 256 ∧ c.2.1 < 256 := by
      rcases (onceC_mem _ _ _).1 hcm with h | h
      · cases h
      · obtain ⟨y, hy, rfl⟩ := List.mem_map.1 h
        exact leaves_sm hN (f.length + 1) (startW_ok hp) (by show 0 < 256; omega) (by show 0 < 256; omega) y hy
    exact ⟨⟨hsm.1, hsm.2, fun x hx => by have := onL_lt d x hx; omega, fun x hx => by have := onL_lt e x hx; omega⟩, d, e⟩
  · have h1 := onceC_len ((leaves f (f.length + 1) (startW f.length ps)).map Way.cov) []
    have h2 := leaves_13 hN hl (f.length + 1) (startW_ok hp)
    rw [List.length_map] at h1
    unfold coversL
    simp at h1
    omega
theorem good_of {f : List Nd} (hN : isN f = true) (hl : f.length ≤ 13) {ps : List Int} (hp : ∀ x ∈ ps, 0 ≤ x ∧ x < f.length) : goodB f ps = true := by
  unfold goodB
  rw [hN]
  simp only [Bool.true_and, Bool.and_eq_true, decide_eq_true_eq]
  refine ⟨by omega, List.all_eq_true.2 (fun x hx => ?_)⟩
  have := hp x hx
  simp [partB]; omega
section
variable {T L : List Cov} {i : Nat}
theorem once_snoc (hi : i < T.length) : onceC (T.take (i + 1)) L = addC (onceC (T.take i) L) T[i] := by
  rw [take_snoc T i hi, onceC_app]; rfl
theorem once_le (T L : List Cov) (i : Nat) : (onceC (T.take i) L).length ≤ (onceC T L).length := by
  have e : onceC T L = onceC (T.drop i) (onceC (T.take i) L) := by rw [← onceC_app, List.take_append_drop]
  obtain ⟨m, hm⟩ := onceC_pre (T.drop i) (onceC (T.take i) L)
  rw [e, hm, List.length_append]; omega
theorem once_has {c : Cov} (h : c ∈ T.take i) : c ∈ onceC (T.take i) L := (onceC_mem _ _ _).2 (.inr h)
theorem addC_pre (L : List Cov) (c : Cov) : ∃ m, addC L c = L ++ m := by
  unfold addC; split
  · exact ⟨[], by simp⟩
  · exact ⟨[c], rfl⟩
theorem addC_has (L : List Cov) (c : Cov) : c ∈ addC L c := by
  unfold addC; split
  · assumption
  · simp
theorem row_snoc (hi : i < T.length) : rowL (onceC (T.take (i + 1)) L) (T.take (i + 1)) = rowL (onceC (T.take i) L) (T.take i) ++ [(addC (onceC (T.take i) L) T[i]).idxOf T[i]] := by
  rw [once_snoc hi]
  obtain ⟨m, hm⟩ := addC_pre (onceC (T.take i) L) T[i]
  conv => lhs; rw [take_snoc T i hi]
  have e : rowL (addC (onceC (T.take i) L) T[i]) (T.take i) = rowL (onceC (T.take i) L) (T.take i) := by rw [hm]; exact rowL_pre (fun c hc => once_has hc)
  unfold rowL at e ⊢
  rw [List.map_append, e]; rfl
theorem idx_inj {L : List Cov} {c d : Cov} (hc : c ∈ L) (_hd : d ∈ L) (h : L.idxOf c = L.idxOf d) : c = d := by
  have h1 := idx_get hc
  have h2 := idx_get _hd
  rw [h, h2] at h1
  exact (Option.some.inj h1).symm
theorem row_fresh (hn : T.Nodup) (hi : i < T.length) : (addC (onceC (T.take i) L) T[i]).idxOf T[i] ∉ rowL (onceC (T.take i) L) (T.take i) := by
  obtain ⟨m, hm⟩ := addC_pre (onceC (T.take i) L) T[i]
  have e : rowL (addC (onceC (T.take i) L) T[i]) (T.take i) = rowL (onceC (T.take i) L) (T.take i) := by rw [hm]; exact rowL_pre (fun c hc => once_has hc)
  rw [← e]
  intro h
  obtain ⟨c, hc, hcx⟩ := List.mem_map.1 h
  have hc2 : c ∈ addC (onceC (T.take i) L) T[i] := by rw [hm]; exact List.mem_append.2 (.inl (once_has hc))
  have := idx_inj hc2 (addC_has _ _) hcx
  subst this
  obtain ⟨j, hj, he⟩ := List.mem_iff_getElem.1 hc
  rw [List.getElem_take] at he
  have hj' : j < i := by simp at hj; omega
  have := (List.getElem_inj hn).1 he
  omega
theorem addC_256 {L : List Cov} {c : Cov} (h : L.length ≤ 256) : ((addC L c).idxOf c < 256 → (addC L c).length ≤ 256) ∧ (addC L c).idxOf c < (addC L c).length ∧ (addC L c).length ≤ 257 := by
  have h2 := List.idxOf_lt_length_of_mem (addC_has L c)
  refine ⟨fun h1 => ?_, h2, ?_⟩
  · by_cases hm : c ∈ L
    · unfold addC; rw [if_pos hm]; exact h
    · unfold addC at h1 ⊢
      rw [if_neg hm] at h1 ⊢
      rw [List.idxOf_append, if_neg hm] at h1
      rw [List.length_append, List.length_singleton]
      simp at h1
      omega
  · unfold addC; split
    · omega
    · rw [List.length_append, List.length_singleton]; omega
end
end Go.Proofs.YtamhjgkigjpbhaaDoor

/- (XTbV) The walk of (*tableau.maker).all (layer 29). -/
namespace Go.Proofs.YtamhjgkigjpbhaaDoor
open Go.RowKit Go.Maps

theorem tz_tch {S : Nat → Prop} {w w' : World} (hT : TzTab w) (ht : Tch S w w') (hS : ¬ S 2) : TzTab w' := fun j hj =>
  (cell_of_blk (ht.block _ (tz_lt hT) hS)).trans (hT j hj)
/-- What all leaves. -/
def APost (n0 _B kb nb ob : Nat) (Af : Option Addr) (cf : Nat) (f : List Nd) (sets : Int) (w : World) (L : List Cov) (p : Nat) (rows : List (List Nat)) (vi vn : Value) (T : List Cov) (en : Ending) (w' : World) : Prop :=
  ((onceC T L).length ≤ 256 → ∃ A c vn', en = .returned (.tuple #[.slice A (rowL (onceC T L) T).length c, .bool true]) ∧ TS n0 w'.heap.size kb nb ob Af cf f sets w' (onceC T L) p rows vi vn' ∧ TSl w' 3 A (rowL (onceC T L) T).length c (icells (natI (rowL (onceC T L) T))) ∧
    Tch (Tk kb nb ob vn) w w' ∧ ∀ i, vn'.ownBlock = some i → i < w.heap.size → vn.ownBlock = some i) ∧
  (256 < (onceC T L).length → en = .returned (.tuple #[.slice none 0 0, .bool false]) ∧ Below n0 w w')
/-- What the loop of all keeps: i covers have their numbers. -/
structure AL (n0 kb nb ob : Nat) (Af : Option Addr) (cf : Nat) (f : List Nd) (sets : Int) (L : List Cov) (p : Nat) (rows : List (List Nat)) (vi vn : Value) (T : List Cov) (w1 : World) (sb i : Nat) (u : Value) (wr : World) : Prop where
  len : (onceC (T.take i) L).length ≤ 256
  ts : ∃ vn', TS n0 w1.heap.size kb nb ob Af cf f sets wr (onceC (T.take i) L) p rows vi vn' ∧ ∀ j, vn'.ownBlock = some j → j < w1.heap.size → vn.ownBlock = some j
  tch : Tch (fun k => Tk kb nb ob vn k ∨ k = sb) w1 wr
  out : wr.ownsRow w1.heap.size 3 1 u (rowL (onceC (T.take i) L) (T.take i)).length (icells (natI (rowL (onceC (T.take i) L) (T.take i))))
  seen : ∃ g, GMap wr 3 sb i g ∧ ∀ q : Nat, q ∉ rowL (onceC (T.take i) L) (T.take i) → g (.int .i64 (q : Int)) = none
  sne : sb ≠ nb ∧ sb ≠ ob ∧ n0 ≤ sb ∧ n0 ≤ w1.heap.size
section
variable {n0 kb nb ob : Nat} {Af : Option Addr} {cf : Nat} {f : List Nd} {sets : Int} {L : List Cov} {p : Nat} {rows : List (List Nat)} {vi vn : Value} {T : List Cov} {w1 wr : World} {sb i : Nat} {u : Value}
theorem AL.step (h : AL n0 kb nb ob Af cf f sets L p rows vi vn T w1 sb i u wr) (hi : i < T.length) {vn1 vn2 : Value} {W5 W6 W7 W8 W9 : World} (hv1 : ∀ j, vn1.ownBlock = some j → j < w1.heap.size → vn.ownBlock = some j)
    (hb5 : Below wr.heap.size wr W5) (hts : TS n0 w1.heap.size kb nb ob Af cf f sets W6 (addC (onceC (T.take i) L) T[i]) p rows vi vn2) (ht6 : Tch (Tk kb nb ob vn1) W5 W6) (hv2 : ∀ j, vn2.ownBlock = some j → j < W5.heap.size → vn1.ownBlock = some j)
    (hidx : (addC (onceC (T.take i) L) T[i]).idxOf T[i] < 256) {g : Lit → Option Value} (hg6 : GMap W6 3 sb i g) (hgn : ∀ q : Nat, q ∉ rowL (onceC (T.take i) L) (T.take i) → g (.int .i64 (q : Int)) = none)
    {x : Value} (hg7 : ∀ g', PutG g g' (.int .i64 ((addC (onceC (T.take i) L) T[i]).idxOf T[i] : Nat)) x → GMap W7 3 sb (i + 1) g') (ht7 : W6.grownBy W7 (some sb)) (hb8 : Below W7.heap.size W7 W8)
    (hou : W8.ownsRow w1.heap.size 3 1 u (rowL (onceC (T.take i) L) (T.take i)).length (icells (natI (rowL (onceC (T.take i) L) (T.take i)))))
    {u' : Value} {n' : Nat} (hn' : n' = (rowL (onceC (T.take i) L) (T.take i)).length + 1) (ho9 : W9.ownsRow w1.heap.size 3 1 u' n' (icells (natI (rowL (onceC (T.take i) L) (T.take i))) ++ [.int .i64 ((addC (onceC (T.take i) L) T[i]).idxOf T[i] : Nat)])) (ht9 : Tch (fun k => u.ownBlock = some k) W8 W9) :
    AL n0 kb nb ob Af cf f sets L p rows vi vn T w1 sb (i + 1) u' W9 := by
  subst hn'
  have z1 := h.tch.size
  have z5 := hb5.size
  have z6 := ht6.size
  have hsn := h.sne
  have t7 : Tch (fun k => k = sb) W6 W7 := (Tch.of_grown ht7).mono (fun i _ e => by injection e with e; exact e.symm)
  have z7 := t7.size
  have z8 := hb8.size
  have hgs : ∃ g', PutG g g' (.int .i64 ((addC (onceC (T.take i) L) T[i]).idxOf T[i] : Nat)) x := putG_ex _ _ _
  obtain ⟨g', hpg⟩ := hgs
  have hgm7 := hg7 g' hpg
  have hgm8 := hgm7.keep (Tch.of_below hb8) (by have := hgm7.lt; omega)
  have hgm9 := hgm8.keep ht9 (fun e => by obtain ⟨cs, hc⟩ := own_cells hou e; exact hgm8.no_cells hc rfl)
  have hts7 : TS n0 w1.heap.size kb nb ob Af cf f sets W7 (addC (onceC (T.take i) L) T[i]) p rows vi vn2 := by
    refine hts.keep t7 (fun e => hg6.no_cells hts.bk e) (fun e => hsn.1 e.symm) (fun e => hsn.2.1 e.symm) (fun g0 hg0 e => ?_) (fun k cs _ hk e => hg6.no_cells hk e) (fun k hk e => by omega)
    obtain ⟨xs, ho, _⟩ := hts.nds
    obtain ⟨cs, hc⟩ := own_cells ho hg0
    exact hg6.no_cells hc e
  have hts8 := hts7.keep (Tch.of_below hb8) (by have := heap_lt hts7.bk; omega) (by have := hts7.nb_lt; omega) (by have := hts7.ob_lt; omega) (fun g0 hg0 => by obtain ⟨xs, ho, _⟩ := hts7.nds; have := (ho.lt g0 hg0).2; omega) (SpB.of (spares_new W7 _)) (fun k hk => by have := hts7.lt.1; omega)
  have hts9 : TS n0 w1.heap.size kb nb ob Af cf f sets W9 (addC (onceC (T.take i) L) T[i]) p rows vi vn2 := by
    refine hts8.keep ht9 (own_ne_blk hou hts8.bk (by decide)) (fun e => ?_) (fun e => ?_) (fun g0 hg0 e => ?_) (fun k cs hk _ e => by have := (hou.lt k e).1; omega) (fun k hk e => by have := (hou.lt k e).1; omega)
    · obtain ⟨cs, hc⟩ := own_cells hou e; exact hts8.nb_cells hc rfl
    · obtain ⟨cs, hc⟩ := own_cells hou e; exact hts8.ob_cells hc rfl
    · obtain ⟨xs, ho, _⟩ := hts8.nds
      obtain ⟨cs, hc⟩ := own_cells ho hg0
      exact own_ne_blk hou hc (by decide) e
  have hrow := row_snoc (L := L) hi
  refine ⟨?_, ⟨vn2, by rw [once_snoc hi]; exact hts9, fun j hj hjl => hv1 j (hv2 j hj (by omega)) hjl⟩, ?_, ?_, ⟨g', hgm9, fun q hq => ?_⟩, hsn⟩
  · rw [once_snoc hi]; exact (addC_256 h.len).1 hidx
  · have a5 : Tch (fun k => Tk kb nb ob vn k ∨ k = sb) w1 W5 := h.tch.trans (Tch.of_below hb5) (fun k hk e => by omega)
    have a6 : Tch (fun k => Tk kb nb ob vn k ∨ k = sb) w1 W6 := a5.trans ht6 (fun k hk e => by
      rcases e with e | e | e | e
      · exact .inl (.inl e)
      · exact .inl (.inr (.inl e))
      · exact .inl (.inr (.inr (.inl e)))
      · exact .inl (.inr (.inr (.inr (hv1 k e hk)))))
    have a7 : Tch (fun k => Tk kb nb ob vn k ∨ k = sb) w1 W7 := a6.trans t7 (fun k hk e => .inr e)
    have a8 : Tch (fun k => Tk kb nb ob vn k ∨ k = sb) w1 W8 := a7.trans (Tch.of_below hb8) (fun k hk e => by omega)
    exact a8.trans ht9 (fun k hk e => by have := (hou.lt k e).1; omega)
  · rw [hrow, List.length_append, List.length_singleton]
    have e : icells (natI (rowL (onceC (T.take i) L) (T.take i) ++ [(addC (onceC (T.take i) L) T[i]).idxOf T[i]])) = icells (natI (rowL (onceC (T.take i) L) (T.take i))) ++ [.int .i64 ((addC (onceC (T.take i) L) T[i]).idxOf T[i] : Nat)] := by simp [icells, natI]
    rw [e]; exact ho9
  · rw [hrow, List.mem_append, List.mem_singleton, not_or] at hq
    rw [hpg.2 _ (fun e => by injection e with _ e; exact hq.2 (by omega))]
    exact hgn q hq.1
end
/-- A cover, read from a row that was there. -/
theorem rd_covB {w1 w : World} {S : Nat → Prop} {B : Nat} {A : Option Addr} {xs : List Value} {T : List Cov} (h : Rd w B A xs) (hc : CovsAt w1 xs T) (ht : Tch S w1 w) (hi : Spares S w1 3) {k : Nat} {c : Cov} (hk : T[k]? = some c) :
    ∃ b off A1 c1 A2 c2, A = some ⟨b, off, none⟩ ∧ b < B ∧ w.cell? ⟨b, off + k * 4, none⟩ = some (.int .u64 (c.1 : Int)) ∧ w.cell? ⟨b, off + k * 4 + 1, none⟩ = some (.int .u64 (c.2.1 : Int)) ∧
      w.cell? ⟨b, off + k * 4 + 2, none⟩ = some (.slice A1 (onL c.2.2.1).length c1) ∧ w.cell? ⟨b, off + k * 4 + 3, none⟩ = some (.slice A2 (onL c.2.2.2).length c2) ∧ CovRd w1.heap.size w c A1 c1 A2 c2 := by
  obtain ⟨A1, c1, A2, c2, e0, e1, e2, e3, t1, t2⟩ := hc k c hk
  rcases h with h0 | ⟨b, off, hA, hlt, hcell⟩
  · rw [h0] at e0; simp at e0
  · exact ⟨b, off, A1, c1, A2, c2, hA, hlt, hcell _ _ e0, by rw [Nat.add_assoc]; exact hcell _ _ e1, by rw [Nat.add_assoc]; exact hcell _ _ e2, by rw [Nat.add_assoc]; exact hcell _ _ e3, (TSb.of t1).keep ht (SpB.of hi), (TSb.of t2).keep ht (SpB.of hi)⟩
set_option maxHeartbeats 4000000 in
set_option maxRecDepth 100000 in
theorem all_any (n0 B kb nb ob : Nat) (Af : Option Addr) (cf : Nat) (f : List Nd) (sets : Int) (w : World) (L : List Cov) (p : Nat) (rows : List (List Nat)) (vi vn : Value) (Ap : Option Addr) (np cp : Nat) (ps : List Int)
    (h : TS n0 B kb nb ob Af cf f sets w L p rows vi vn) (hB : B ≤ w.heap.size) (hp : Sl w w.heap.size 1 Ap np cp (icells ps)) (hnp : np = ps.length) (hN : isN f = true) (hps : ∀ x ∈ ps, 0 ≤ x ∧ x < f.length) (hl : f.length ≤ 13) (hL : L.length ≤ 256) (hpl : np ≤ 1000) (hT : TzTab w) (hg : 2 < n0) :
    Calls Tryd.prog 22 #[.pointer (some ⟨kb, 0, none⟩), .slice Ap np cp] w (APost n0 B kb nb ob Af cf f sets w L p rows vi vn (coversL f (ps.map Int.toNat))) := by
  have hpn : ∀ x ∈ ps.map Int.toNat, x < f.length := fun x hx => by
    obtain ⟨z, hz, rfl⟩ := List.mem_map.1 hx
    have := hps z hz
    omega
  obtain ⟨hnd, hcok, hclen⟩ := cov_facts hN hl hpn
  have hgood := good_of hN hl hps
  have hask : askedL f ps = coversL f (ps.map Int.toNat) := by unfold askedL; rw [if_pos hgood]
  have hlv : (leaves f (f.length + 1) (startW f.length (ps.map Int.toNat))).length ≤ 1000000 := Nat.le_trans (leaves_13 hN hl _ (startW_ok hpn)) (by omega)
  obtain ⟨T, hTe⟩ : ∃ T, coversL f (ps.map Int.toNat) = T := ⟨_, rfl⟩
  rw [hTe] at hnd hcok hclen hask ⊢
  have hb0 : Below w.heap.size w (w.alloc (.map #[] 0)) := (Below.refl _ _).alloc (Nat.le_refl _) _
  have hx0 := heap_alloc_new w (.map #[] 0)
  have hz0 : (w.alloc (.map #[] 0)).heap.size = w.heap.size + 1 := by simp
  obtain ⟨W0, hW0⟩ : ∃ W0, w.alloc (.map #[] 0) = W0 := ⟨_, rfl⟩
  rw [hW0] at hb0 hx0 hz0
  have HW0 := Lib.hid hW0
  have HOF := Lib.hid (of_any Af cf f Ap np cp ps W0 (((h.below hb0).fs).up (by have := h.lt.1; omega)) ((hp.below hb0 (Nat.le_refl _)).up (by omega)) hnp (by omega) (by omega) (fun _ => hlv))
  rw [hask] at HOF
  obtain ⟨b0, b1, b2, b3, b4, b5⟩ := box6 (h.below hb0).bk
  have b0' : (w.alloc (.map #[] 0)).cell? ⟨kb, 0, none⟩ = some (.slice Af f.length cf) := by rw [HW0.out]; exact b0
  have hmk := run_makeMap (P := Tryd.prog) 79
  have HT := Lib.hid h
  have HTZ := Lib.hid hT
  have HND := Lib.hid hnd
  have HCOK := Lib.hid hcok
  have HTE := Lib.hid hTe
  clear h hT hnd hcok hTe hW0 hask hlv hgood hp hps hpn hnp b1 b2 b3 b4 b5
  go_enter Tryd.func22, Tryd.ntmps22
  go_wp2_with fail
  rw [HW0.out]
  refine Calls.mono HOF.out ?_
  rintro e w1 ⟨vT, xs, rfl, hoT, hcT, hb1⟩
  obtain ⟨AT, cT, rfl, hsT⟩ := own_sl hoT
  clear b0 b0' hmk
  have hb01 : Below w.heap.size w w1 := hb0.trans (hb1.mono (by omega))
  have hz1 := hb01.size
  have HT1 := Lib.hid ((HT.out.below hb01).up (show B ≤ w1.heap.size by omega))
  have hz1' := hb1.size
  have hseen : GMap w1 3 w.heap.size 0 (fun _ => none) := GMap.of_blk ((hb1.block _ (by omega)).trans hx0)
  have hSc : ∀ t : TypeId, 43 ≠ t → 54 ≠ t → Spares (fun k => Tk kb nb ob vn k ∨ k = w.heap.size) w1 t := fun t h1 h2 k cs hk e => by
    rcases e with e | e
    · exact HT1.out.spares h1 h2 k cs hk e
    · exact hseen.no_cells hk e
  have hAL0 : AL n0 kb nb ob Af cf f sets L p rows vi vn T w1 w.heap.size 0 (.slice none 0 0) w1 :=
    ⟨by simpa [onceC] using hL, ⟨vn, by simpa [onceC] using HT1.out, fun j hj _ => hj⟩, Tch.refl _ _, by simpa [rowL, icells, natI] using World.ownsRow_nil w1 w1.heap.size 3 1, ⟨_, hseen, fun _ _ => rfl⟩, ⟨fun e => by have := HT.out.nb_lt; omega, fun e => by have := HT.out.ob_lt; omega, by have := HT.out.lt.1; omega, by have := HT.out.lt.1; omega⟩⟩
  have HSC := Lib.hid hSc
  have HOT := Lib.hid hoT
  have HCT := Lib.hid hcT
  clear hsT hoT hcT hSc hseen
  go_wp2_with fail
  go_loopw [6, 19] (fun u v wr => ∃ i : Nat, i ≤ T.length ∧ v = .int .i64 i ∧ AL n0 kb nb ob Af cf f sets L p rows vi vn T w1 w.heap.size i u wr) (fun _ v _ => T.length - (intOf v).toNat)
  case atStart => exact ⟨0, by omega, rfl, hAL0⟩
  case round =>
    obtain ⟨i, hi, rfl, HAL'⟩ := hrel
    have HAL := Lib.hid HAL'
    clear HAL' hAL0
    by_cases hlt : i < T.length
    · have hor := own_tch HOT.out HAL.out.tch (fun g hg e => by obtain ⟨cs, hc⟩ := own_cells HOT.out hg; exact HSC.out _ (by decide) (by decide) g cs hc e)
      obtain ⟨Ar, cr, hAr, hsr⟩ := own_sl hor
      injection hAr with hA1 hA2 hA3
      subst hA1 hA3
      obtain ⟨ba, oa, E1, e1, E2, e2, rfl, hbal, p0, p1, p2, p3, hrd⟩ := rd_covB hsr.rd HCT.out HAL.out.tch (HSC.out _ (by decide) (by decide)) (List.getElem?_eq_getElem hlt)
      have h0 : (0 : Int) ≤ (i : Int) := by omega
      have h1 : (i : Int) < (T.length : Int) := by omega
      have hnz : ∀ k, (Tk kb nb ob vn k ∨ k = w.heap.size) → n0 ≤ k := fun k hk => by
        rcases hk with hk | hk
        · exact HT1.out.tk_ge hk
        · have := HT.out.lt.1; omega
      have htz : TzTab wr := tz_tch (tz_below HTZ.out hb01) HAL.out.tch (fun e => by have := hnz _ e; omega)
      have hb5 : Below wr.heap.size wr (wr.alloc (.cells #[.int .u64 (T[i].1 : Int), .int .u64 (T[i].2.1 : Int), .slice E1 (onL T[i].2.2.1).length e1, .slice E2 (onL T[i].2.2.2).length e2] 57)) := (Below.refl _ _).alloc (Nat.le_refl _) _
      obtain ⟨W5, hW5⟩ : ∃ W5, wr.alloc (.cells #[.int .u64 (T[i].1 : Int), .int .u64 (T[i].2.1 : Int), .slice E1 (onL T[i].2.2.1).length e1, .slice E2 (onL T[i].2.2.2).length e2] 57) = W5 := ⟨_, rfl⟩
      rw [hW5] at hb5
      have HW5 := Lib.hid hW5
      obtain ⟨vn1, hts, hv1⟩ := HAL.out.ts
      have hlen := HAL.out.len
      have HNB := Lib.hid (number_any n0 w1.heap.size kb nb ob Af cf f sets W5 (onceC (T.take i) L) p rows vi vn1 T[i] E1 e1 E2 e2 (hts.below hb5) (hrd.keep (Tch.of_below hb5) (SpB.of (spares_new wr _))) (HCOK.out _ (List.getElem_mem hlt)) (tz_below htz hb5) (by omega) (by omega))
      have HTS := Lib.hid hts
      have HV1 := Lib.hid hv1
      have hkbr := hts.bk
      have hol := HAL.out.out.lt
      clear hor hsr hW5 hrd htz hnz hts hlen
      go_wp2_with fail
      rw [HW5.out]
      refine Calls.mono HNB.out ?_
      rintro e W6 ⟨vn2, rfl, hts6, ht6, hv2⟩
      clear p0 p1 p2 p3
      have hl2 := (addC_256 (c := T[i]) HAL.out.len).2
      have hfr := row_fresh (L := L) HND.out hlt
      obtain ⟨n, hn⟩ : ∃ n, (addC (onceC (T.take i) L) T[i]).idxOf T[i] = n := ⟨_, rfl⟩
      rw [hn] at hl2 hfr ⊢
      have HNN := Lib.hid hn
      have hn257 : n < 257 := by omega
      have HTS6 := Lib.hid hts6
      have HT6 := Lib.hid ht6
      have HV2 := Lib.hid hv2
      clear hn hts6 ht6 hv2
      by_cases h256 : n < 256
      · obtain ⟨g, hgm, hgn⟩ := HAL.out.seen
        have hsn := HAL.out.sne
        have hgm6 : GMap W6 3 w.heap.size i g := (hgm.keep (Tch.of_below hb5) (by have := hgm.lt; omega)).keep HT6.out (fun e => by
          rcases e with e | e | e | e
          · exact hgm.no_cells hkbr e.symm
          · exact hsn.1 e
          · exact hsn.2.1 e
          · obtain ⟨xs', ho', _⟩ := HTS.out.nds
            obtain ⟨cs, hc⟩ := own_cells ho' e
            exact hgm.no_cells hc rfl)
        have hlk := hgm6.look false intKeyed Tryd.underlying79 (by kernel_rfl) (keyNat (q := n) (by omega)) (z := .int .i64 0)
        rw [hgn n hfr] at hlk
        simp only [Option.getD_none, Bool.false_eq_true, if_false] at hlk
        obtain ⟨W7, hup, hgm7, hgr7⟩ := hgm6.update intKeyed Tryd.underlying79 (by unfold maxLen; omega) (keyNat (q := n) (by omega)) (.int .i64 1)
        obtain ⟨g7, hpg⟩ := putG_ex g (.int .i64 (n : Int)) (.int .i64 1)
        have hlk2 := (hgm7 g7 hpg).look false intKeyed Tryd.underlying79 (by kernel_rfl) (keyNat (q := n) (by omega)) (z := .int .i64 0)
        rw [hpg.1] at hlk2
        simp only [Option.getD_some, Bool.false_eq_true, if_false] at hlk2
        have ht7 : Tch (fun k => k = w.heap.size) W6 W7 := (Tch.of_grown hgr7).mono (fun i _ e => by injection e with e; exact e.symm)
        have hou := HAL.out.out
        have hou5 := own_tch hou (Tch.of_below hb5) (fun g hg => by have := (hou.lt g hg).2; omega)
        have hou6 := own_tch hou5 HT6.out (fun g hg e => by
          obtain ⟨cs, hc⟩ := own_cells hou5 hg
          exact (HTS.out.below hb5).spares (by decide) (by decide) g cs hc e)
        have hou7 := own_tch hou6 ht7 (fun g hg e => by obtain ⟨cs, hc⟩ := own_cells hou6 hg; exact hgm6.no_cells hc e)
        have HG7 := Lib.hid hgm7
        have HGR := Lib.hid hgr7
        have HG6 := Lib.hid hgm6
        have HGN := Lib.hid hgn
        have HOU := Lib.hid hou7
        have hw17 : w1.heap.size ≤ W7.heap.size := by have := HAL.out.tch.size; have := hb5.size; have := HT6.out.size; have := ht7.size; omega
        have hrl : (rowL (onceC (T.take i) L) (T.take i)).length ≤ 10000 := by simp [rowL]; omega
        have wi : IntKind.i64.wrap ((i : Int) + 1) = i + 1 := by rw [IntKind.wrap_i64]; omega
        clear hgm hgn hgm6 hgm7 hgr7 hpg hou hou5 hou6 hou7 ht7 hol hkbr hfr
        go_wp2_with (at_builtin
                     refine wpList_push rfl (.tmp 36) (.tmp 38) 25 rfl w1.heap.size 3 1 8 sliceInt _ _ _ (HOU.out.alloc _) rfl W7.heap.size #[.int .i64 n] rfl (heap_alloc_new W7 _) rfl (by simp [Value.oneCell']) (by omega) (by omega) (by simp; omega) ?_
                     intro v9 W9 ho9 ht9 hat9 hne9)
        go_roundw
        case rel => exact ⟨i + 1, by omega, by go_num, HAL.out.step hlt HV1.out hb5 HTS6.out HT6.out HV2.out (by rw [HNN.out]; exact h256) HG6.out HGN.out (by rw [HNN.out]; exact HG7.out) HGR.out ((Below.refl _ _).alloc (Nat.le_refl _) _) (HOU.out.alloc _) rfl (by rw [HNN.out]; exact ho9) ht9⟩
        case measure => simp [intOf]; omega
      · go_wp2_with fail
        go_ret2
        have hle := once_le T L (i + 1)
        rw [once_snoc hlt] at hle
        have hn0 := HT1.out.lt.1
        have b1 : Below n0 w w1 := hb01.mono HT.out.lt.1
        have b2 : Below n0 w1 wr := HAL.out.tch.below hn0 (fun k hk e => by
          rcases e with e | e
          · have := HT1.out.tk_ge e; omega
          · have := HT.out.lt.1; omega)
        have b3 : Below n0 wr W5 := hb5.mono (by have := HAL.out.tch.size; omega)
        have b4 : Below n0 W5 W6 := HT6.out.below (by have := HAL.out.tch.size; have := hb5.size; omega) (fun k hk e => by have := (HTS.out.below hb5).tk_ge e; omega)
        exact ⟨fun h => by omega, fun _ => ⟨rfl, ((b1.trans b2).trans b3).trans b4⟩⟩
    · have hin : i = T.length := by omega
      subst hin
      have hou := HAL.out.out
      have hlen := HAL.out.len
      have htk : T.take T.length = T := List.take_length
      rw [htk] at hou hlen
      obtain ⟨vn1, hts, hv1⟩ := HAL.out.ts
      rw [htk] at hts
      obtain ⟨Ao, co, rfl, hts2⟩ := TSl.of_own hou
      have HTS2 := Lib.hid hts2
      have HTS := Lib.hid hts
      have HV1 := Lib.hid hv1
      clear hou hts hv1 htk hts2
      go_wp2_with fail
      go_ret2
      refine ⟨fun _ => ⟨Ao, co, vn1, rfl, HTS.out.up HAL.out.tch.size, HTS2.out, ((Tch.of_below hb01).mono (fun i hi e => by omega)).trans HAL.out.tch (fun j hj e => e.resolve_right (by omega)), fun j hj hjl => HV1.out j hj (by omega)⟩, fun h => by omega⟩
end Go.Proofs.YtamhjgkigjpbhaaDoor
