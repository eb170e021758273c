/- The law GraphMany. -/
import Derived.Test.YtfpncpjdmgfkbaaGrL0
namespace Go.Proofs.Ytfpncpjdmgfkbaa
open Go.RowKit

def Gmany (n : Nat) : Gph := ⟨[], List.replicate n [], List.replicate n 0⟩
theorem check_many (n : Nat) : checkG (Gmany n) = if 65536 < n then 11 else 0 := by
  rw [checkG]
  by_cases h : 65536 < n
  · rw [if_pos (by simpa [Gmany] using h), if_pos h]
  · rw [if_neg (by simpa [Gmany] using h), if_neg h, if_neg (by simp [Gmany]), if_pos (by simp [Gmany])]
theorem made_nil (n : Nat) : (madeCells #[Value.slice none 0 0] n).toList = List.replicate n (.slice none 0 0) := toList_madeCells_one _ _
theorem many_rd {w : World} {r l n B : Nat} (hr : w.heap[r]? = some (.cells (madeCells #[Value.slice none 0 0] n) 34 (0, 0))) (hl : w.heap[l]? = some (.cells (madeCells #[Value.int .u64 0] n) 60 (0, 0))) (hn : n ≤ 100000) (h1 : r < B) (h2 : l < B) :
    GrRd w B none 0 0 (some ⟨r, 0, none⟩) n n (some ⟨l, 0, none⟩) n n (Gmany n) := by
  refine ⟨Sl.none_ _ _ _, ⟨_, sl_blk hr (made_nil n) (by simp) (by unfold maxLen; omega) h1, by simp [Gmany], fun j ys hj => ?_⟩, sl_blk hl (by rw [show (Gmany n).labels.map (Value.int .u64) = List.replicate n (.int .u64 0) by simp [Gmany]]; exact toList_madeCells_one _ _) (by simp [Gmany]) (by unfold maxLen; omega) h2⟩
  have hj' : j < n := by have := (List.getElem?_eq_some_iff.1 hj).1; simpa [Gmany] using this
  simp [Gmany, hj', ncells] at hj
  subst hj
  exact ⟨none, 0, 0, by simp [hj'], Sl.none_ _ _ _⟩
/-- The graph of many nodes, made. -/
def ManyRel (n : Nat) (w : World) (p : Value) (wF : World) : Prop :=
  ∃ g r l, p = .pointer (some ⟨g, 0, none⟩) ∧ wF.heap[g]? = some (.cells #[.slice none 0 0, .slice (some ⟨r, 0, none⟩) n n, .slice (some ⟨l, 0, none⟩) n n] 26 (0, 0)) ∧ wF.heap[r]? = some (.cells (madeCells #[Value.slice none 0 0] n) 34 (0, 0)) ∧
    wF.heap[l]? = some (.cells (madeCells #[Value.int .u64 0] n) 60 (0, 0)) ∧ Below w.heap.size w wF
theorem heap_set3n {w : World} {g k : Nat} {x y z : Value} {o : Obj} (hk : k ≠ g) (h : w.heap[k]? = some o) : (((w.setCell ⟨g, 0, none⟩ x).setCell ⟨g, 1, none⟩ y).setCell ⟨g, 2, none⟩ z).heap[k]? = some o := heap_set3o hk h

set_option maxHeartbeats 1000000 in
set_option maxRecDepth 100000 in
theorem GraphMany_any (x : Int) (w : World) (h0 : 0 ≤ x) (h1 : x ≤ 255) :
    Calls Try.prog 4 #[.int .u8 x] w (Tru w true) := by
  obtain ⟨n, hn, hn2⟩ : ∃ n : Nat, 65533 + x % 8 = (n : Int) ∧ n ≤ 65540 := ⟨(65533 + x % 8).toNat, by omega, by omega⟩
  have hmk1 := run_make_row' (P := Try.prog) 23 34 (.slice none 0 0) 24 Try.underlying23 infoRowE rfl .i64 .i64 n (by omega) (by omega)
  have hmk2 := run_make_row' (P := Try.prog) 24 60 (.int .u64 0) 8 Try.underlying24 infoU rfl .i64 .i64 n (by omega) (by omega)
  have HM1 := Lib.hid hmk1
  have HM2 := Lib.hid hmk2
  have HN := Lib.hid hn
  clear hmk1 hmk2 hn
  go_enter Try.func4, Try.ntmps4
  go_wp2_with fail
  rw [HN.out]
  go_cut [4] from 5 (fun p wF => ManyRel n w p wF)
  case first =>
    have hmk1 := HM1.out
    have hmk2 := HM2.out
    go_region_held3 (fun _ => True) (trivial) (fail)
    all_goals
      clear HM1 HM2 hmk1 hmk2
      go_wp2_with fail
      go_meet
      apply Exists.intro
      apply Exists.intro
      apply Exists.intro
      refine ⟨rfl, ?_, ?_, ?_, ?_⟩
      · repeat (first | ((with_reducible refine heap_new ?_); focus (first | rfl | (simp; done))) | ((with_reducible refine heap_old ?_ ?_); focus (first | omega | (simp; done) | (simp; omega))) | (with_reducible refine heap_drew ?_))
      · repeat (first | ((with_reducible refine heap_new ?_); focus (first | rfl | (simp; done))) | ((with_reducible refine heap_old ?_ ?_); focus (first | omega | (simp; done) | (simp; omega))) | (with_reducible refine heap_drew ?_))
      · repeat (first | ((with_reducible refine heap_new ?_); focus (first | rfl | (simp; done))) | ((with_reducible refine heap_old ?_ ?_); focus (first | omega | (simp; done) | (simp; omega))) | (with_reducible refine heap_drew ?_))
      · repeat (first | exact Below.refl _ _ | refine Below.drew ?_ | refine below_al (by first | omega | (simp; done) | (simp; omega)) ?_)
  case rest =>
    obtain ⟨g, r, l, rfl, hg, hr, hl, hb⟩ := hcut
    obtain ⟨⟨c0, c1, c2⟩, _, hgl⟩ := blk3 hg
    have hrl := lt_of_block hr
    have hll := lt_of_block hl
    have hz := hb.size
    have hck := checkP_any none (some ⟨r, 0, none⟩) (some ⟨l, 0, none⟩) 0 0 n n n n (Gmany n) wc wc.heap.size (many_rd hr hl (by omega) hrl hll) (Nat.le_refl _) (by omega) (by omega) (by omega) (fun x hx => by simp [Gmany] at hx; rw [hx.2]; simp)
    rw [check_many] at hck
    clear hg hr hl HM1 HM2
    by_cases hc : 65536 < n
    · rw [if_pos hc] at hck
      have d1 : decide ((65536 : Int) < (n : Int)) = true := by simp; omega
      have HCK := Lib.hid hck
      clear hck hc
      go_wp2_with fail
      refine Calls.mono HCK.out ?_
      rintro e w1 ⟨rfl, hb1⟩
      go_wp2_with fail
      refine (awake_any _).mono ?_
      rintro e w2 ⟨rfl, hb2⟩
      go_wp2
      go_ret
      exact ⟨rfl, hb.trans ((hb1.trans (hb2.mono hb1.size)).mono hz)⟩
    · rw [if_neg hc] at hck
      have d1 : decide ((65536 : Int) < (n : Int)) = false := by simp; omega
      have HCK := Lib.hid hck
      clear hck hc
      go_wp2_with fail
      refine Calls.mono HCK.out ?_
      rintro e w1 ⟨rfl, hb1⟩
      go_wp2_with fail
      refine (awake_any _).mono ?_
      rintro e w2 ⟨rfl, hb2⟩
      go_wp2
      go_ret
      exact ⟨rfl, hb.trans ((hb1.trans (hb2.mono hb1.size)).mono hz)⟩
end Go.Proofs.Ytfpncpjdmgfkbaa
