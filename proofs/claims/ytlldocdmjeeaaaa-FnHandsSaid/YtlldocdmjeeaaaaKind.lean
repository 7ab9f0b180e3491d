/-
  Counts of ranks, rows of ranks and the kind of five cards, in the implementation. Conditions: those of each theorem.
-/
import Derived.Test.YtlldocdmjeeaaaaLookP
import Derived.Deep.DeepCutAuto
import Derived.Laws.Rows
import Derived.Deep.WholeRow
namespace Go.Proofs.Ytlldocdmjeeaaaa.hand
open Go.RowKit
open base mem

/-! ### a block that is known whole -/
def Blk (w : World) (g : Nat) (t : TypeId) (cs : Array Value) : Prop := w.heap[g]? = some (.cells cs t (0, 0))
section
variable {w w' : World} {g : Nat} {t : TypeId} {cs : Array Value}
theorem Blk.lt (h : Blk w g t cs) : g < w.heap.size := by
  rcases Nat.lt_or_ge g w.heap.size with hlt | hge
  · exact hlt
  · unfold Blk at h; rw [Array.getElem?_eq_none hge] at h; cases h
theorem Blk.cell (h : Blk w g t cs) (i : Nat) : w.cell? ⟨g, i, none⟩ = cs[i]? := cell_of_row w g i cs t (0, 0) h
theorem Blk.frozen (h : Blk w g t cs) (i : Nat) : w.frozen? ⟨g, i, none⟩ = false := frozen_of_row w g i cs t h
theorem Blk.new (w : World) (t : TypeId) (cs : Array Value) : Blk (w.alloc (.cells cs t)) w.heap.size t cs := heap_alloc_new w _
theorem Blk.drewN (h : Blk w g t cs) (n : Nat) : Blk (w.drewN n) g t cs := h
theorem Blk.alloc (h : Blk w g t cs) (o : Obj) : Blk (w.alloc o) g t cs := (Below.heap_alloc w o g h.lt).trans h
theorem Blk.put (h : Blk w g t cs) (i : Nat) (u : Value) : Blk (w.setCell ⟨g, i, none⟩ u) g t (cs.setIfInBounds i u) := heap_setCell_same w g i cs t u h
theorem Blk.far (h : Blk w g t cs) {p : Addr} (hp : g ≠ p.block) (u : Value) : Blk (w.setCell p u) g t cs := (heap_setCell_other w p g u hp).trans h
theorem Blk.below {B : Nat} (h : Blk w g t cs) (hb : Below B w w') (hg : g < B) : Blk w' g t cs := (hb.block g hg).trans h
theorem Blk.grown {row : Option Nat} (h : Blk w g t cs) (hb : w.grownBy w' row) (hg : some g ≠ row) : Blk w' g t cs := (hb.block g h.lt hg).trans h
end
/-- numbers as cells -/
def nvs (c : List Nat) : Array Value := (c.map fun (n : Nat) => Value.int .i64 (n : Int)).toArray
theorem nvs_size (c : List Nat) : (nvs c).size = c.length := by simp [nvs]
theorem nvs_at (c : List Nat) (i : Nat) (h : i < c.length) : (nvs c)[i]? = some (.int .i64 ((c.getD i 0 : Nat) : Int)) := by
  simp [nvs, h, List.getD]
theorem nvs_set (c : List Nat) (i n : Nat) (v : Value) (hv : v = .int .i64 (n : Int)) : (nvs c).setIfInBounds i v = nvs (c.set i n) := by
  subst hv
  simp [nvs, List.map_set]
theorem cnt_step {xs : List Int} {k n : Nat} (h : xs.length = n) (hk : k < n) {x : Nat} (hx : xs.getD k 0 = (x : Int)) :
    cntN (xs.take (k + 1)) = (cntN (xs.take k)).set (x % 13) ((cntN (xs.take k)).getD (x % 13) 0 + 1) := by
  have hkx : k < xs.length := by omega
  have e : xs[k] = (x : Int) := by rw [← hx]; simp [List.getD, hkx]
  rw [List.take_succ_eq_append_getElem hkx, e]
  exact cntN_snoc _ _ _ (by omega) (Nat.mod_lt _ (by decide))
theorem cnt_le (xs : List Int) (k r : Nat) : (cntN (xs.take k)).getD r 0 ≤ k := by
  rw [cntN_at]
  split
  · exact Nat.le_trans List.countP_le_length (by rw [List.length_take]; omega)
  · omega
theorem store_row {w : World} {g : Nat} {t : TypeId} {cur cs : Array Value} (h : Blk w g t cur) (hs : cur.size = cs.size) (h1 : ∀ v ∈ cs.toList, v.oneCell' = true) :
    (storeCells ⟨g, 0, none⟩ cs.toList).run Try.prog w = .ok () (w.setRow g cs) ∧ Blk (w.setRow g cs) g t cs ∧ (∀ B W, Below B W w → B ≤ g → Below B W (w.setRow g cs)) := by
  have h0 := run_storeCells_from (P := Try.prog) g t cs.toList 0 cur w h (by simp [hs]) h1
  simp only [List.take_zero, List.nil_append, Array.toArray_toList] at h0
  exact ⟨h0, setRow_heap w g cur cs t (0, 0) h, fun B W hb hB => hb.trans ⟨rfl, rfl, rfl, by simp [World.setRow], fun k hk => setRow_other w g k cs (by omega)⟩⟩
theorem nvs_one (c : List Nat) : ∀ v ∈ (nvs c).toList, v.oneCell' = true := by
  intro v hv
  simp only [nvs, List.mem_map] at hv
  obtain ⟨x, _, rfl⟩ := hv
  rfl
theorem info13 : (Try.prog.info? 76).map (fun i => i.size) = some 13 := by kernel_rfl

set_option maxHeartbeats 1000000 in
theorem rankCounts_any (A : Option Addr) (n c : Nat) (xs : List Int) (B : Nat) (w : World) (hR : Rd w B A n xs) (hB : B ≤ w.heap.size) (hn : n ≤ 1000) (hr : ∀ x ∈ xs, 0 ≤ x ∧ x < 52) :
    Calls Try.prog 88 #[.slice A n c] w fun e w' => e = .returned (.agg (nvs (cntN xs))) ∧ Below w.heap.size w w' := by
  have HL := hide hR.len
  have HRR := hide hr
  clear hr
  go_enter Try.func88, Try.ntmps88
  go_wp2
  obtain ⟨g, hg⟩ := ex_eq w.heap.size
  have hb1 := Blk.alloc (Blk.new w 76 (nvs (cntN []))) (.cells (nvs (cntN [])) 76)
  have hb2 := Blk.new (w.alloc (.cells (nvs (cntN [])) 76)) 76 (nvs (cntN []))
  have hbw : Below w.heap.size w ((w.alloc (.cells (nvs (cntN [])) 76)).alloc (.cells (nvs (cntN [])) 76)) := ((Below.refl _ _).alloc (Nat.le_refl _) _).alloc (by simp) _
  rw [show (w.alloc (.cells (nvs (cntN [])) 76)).heap.size = w.heap.size + 1 by simp] at hb2
  rw [hg] at hb1 hb2 hbw hB ⊢
  have HG := hide hg
  clear hg
  go_loopw [5, 9] (fun _ i wr => ∃ k : Nat, k ≤ n ∧ i = .int .i64 k ∧ Blk wr (g + 1) 76 (nvs (cntN (xs.take k))) ∧ Blk wr g 76 (nvs (cntN [])) ∧ Below g w wr) (fun _ i _ => n - (intOf i).toNat)
  case atStart => exact ⟨0, Nat.zero_le _, rfl, hb2, hb1, hbw⟩
  case round =>
    obtain ⟨k, hk, rfl, h2, h1, hb⟩ := hrel
    by_cases hlt : k < n
    · obtain ⟨b, o, rfl, hbB, hc⟩ := ((hR.more hB).below hb).at_ hlt
      have hkx : k < xs.length := by rw [HL.out]; exact hlt
      obtain ⟨x, hx⟩ : ∃ x : Nat, xs.getD k 0 = (x : Int) := by
        have h := HRR.out xs[k] (List.getElem_mem hkx)
        have e : xs.getD k 0 = xs[k] := by simp [List.getD, hkx]
        obtain ⟨x, hx⟩ := Int.eq_ofNat_of_zero_le h.1
        exact ⟨x, by rw [e, hx]⟩
      rw [hx] at hc
      have hcs := cnt_step HL.out hlt hx
      have hle := cnt_le xs k (x % 13)
      have h13 : x % 13 < 13 := Nat.mod_lt _ (by decide)
      have hc2 := h2.cell (x % 13)
      rw [nvs_at _ _ (by rw [cntN_len]; exact h13)] at hc2
      have hf2 := h2.frozen (x % 13)
      have hst := h2.put (x % 13) (.int .i64 (((cntN (xs.take k)).getD (x % 13) 0 : Nat) + 1))
      rw [nvs_set _ _ ((cntN (xs.take k)).getD (x % 13) 0 + 1) _ (by go_num), ← hcs] at hst
      obtain ⟨v, hv⟩ := ex_eq ((cntN (xs.take k)).getD (x % 13) 0)
      rw [hv] at hc2 hle hst
      have HST := hide hst
      have H1 := hide (h1.far (p := ⟨g + 1, x % 13, none⟩) (by simp) (.int .i64 ((v : Int) + 1)))
      have HB := hide (hb.setCell (p := ⟨g + 1, x % 13, none⟩) (by simp) (.int .i64 ((v : Int) + 1)))
      clear hv hcs hst h2 h1 hb hx hkx hR
      go_wp2
      go_roundw
      case rel => exact ⟨k + 1, by omega, by go_num, HST.out, H1.out, HB.out⟩
      case measure => simp [intOf]; omega
    · obtain rfl : k = n := by omega
      rw [List.take_of_length_le (by rw [HL.out]; exact Nat.le_refl _)] at h2
      obtain ⟨hsc, hfin, hbf⟩ := store_row h1 (cs := nvs (cntN xs)) (by rw [nvs_size, nvs_size, cntN_len, cntN_len]) (nvs_one _)
      have HFIN := hide hfin
      have HBF := hide (hbf _ _ hb (Nat.le_refl _))
      clear hfin hbf
      go_wp2_with (refine wpList_load_row rfl 76 (.tmp 3) rfl (g + 1) rfl 76 (nvs (cntN xs)) (0, 0) _ h2 Try.underlying76 rfl (by rw [nvs_size, cntN_len]; exact info13) ?_)
      refine bodyPost_ret (v := .agg (nvs (cntN xs))) (results_cell_row rfl _ _ g 76 (nvs (cntN xs)) (0, 0) _ (by rfl) HFIN.out Try.underlying76 rfl (by rw [nvs_size, cntN_len]; exact info13)) rfl ?_
      exact ⟨rfl, by rw [HG.out]; exact HBF.out⟩

/-! ### five in a row -/
def onesB (c : List Nat) (a j : Nat) : Bool := (List.range j).all fun i => c.getD (a + i) 0 == 1
theorem ones_zero (c : List Nat) (a : Nat) : onesB c a 0 = true := rfl
theorem ones_step (c : List Nat) (a j : Nat) : onesB c a (j + 1) = (onesB c a j && c.getD (a + j) 0 == 1) := by
  unfold onesB
  rw [List.range_succ, List.all_append]
  simp
theorem ones_row (c : List Nat) (t : Nat) (h4 : 4 ≤ t) (h12 : t ≤ 12) : onesB c (t - 4) 5 = rowAt c t := by
  obtain rfl | rfl | rfl | rfl | rfl | rfl | rfl | rfl | rfl : t = 4 ∨ t = 5 ∨ t = 6 ∨ t = 7 ∨ t = 8 ∨ t = 9 ∨ t = 10 ∨ t = 11 ∨ t = 12 := by omega
  all_goals
    rw [Bool.eq_iff_iff]
    simp [onesB, rowAt, show List.range 5 = [0, 1, 2, 3, 4] from rfl]
    constructor <;> (rintro ⟨a, b, c, d, e⟩; exact ⟨e, d, c, b, a⟩)
theorem row_three (c : List Nat) : rowAt c 3 = (c.getD 12 0 == 1 && c.getD 0 0 == 1 && c.getD 1 0 == 1 && c.getD 2 0 == 1 && c.getD 3 0 == 1) := by
  rw [Bool.eq_iff_iff]
  simp [rowAt, show List.range 5 = [0, 1, 2, 3, 4] from rfl]
  constructor
  · rintro ⟨a, b, c, d, e⟩; exact ⟨⟨⟨⟨e, d⟩, c⟩, b⟩, a⟩
  · rintro ⟨⟨⟨⟨e, d⟩, c⟩, b⟩, a⟩; exact ⟨a, b, c, d, e⟩
theorem rowF_yes {c : List Nat} {t : Nat} (h3 : 3 ≤ t) (h : rowAt c t = true) : rowF c (t - 2) = (t : Int) := by
  obtain ⟨m, rfl⟩ : ∃ m, t = m + 3 := ⟨t - 3, by omega⟩
  show rowF c (m + 1) = _
  rw [rowF, if_pos h]
theorem rowF_no {c : List Nat} {t : Nat} (h3 : 3 ≤ t) (h : rowAt c t = false) : rowF c (t - 2) = rowF c (t - 1 - 2) := by
  obtain ⟨m, rfl⟩ : ∃ m, t = m + 3 := ⟨t - 3, by omega⟩
  show rowF c (m + 1) = rowF c m
  rw [rowF, if_neg (by rw [h]; decide)]

set_option maxHeartbeats 2000000 in
theorem rowOf_any (c : List Nat) (h13 : c.length = 13) (h4 : ∀ r, c.getD r 0 ≤ 1000) (w : World) :
    Calls Try.prog 91 #[.agg (nvs c)] w fun e w' => e = .returned (.int .i64 (rowV c)) ∧ Below w.heap.size w w' := by
  have H13 := hide h13
  have H4 := hide h4
  have HB := Blk.new w 76 (nvs c)
  have hbw : Below w.heap.size w (w.alloc (.cells (nvs c) 76)) := (Below.refl _ _).alloc (Nat.le_refl _) _
  obtain ⟨g, hg⟩ := ex_eq w.heap.size
  rw [hg] at HB hbw
  have HG := hide hg
  obtain ⟨R, hR⟩ := ex_eq (rowV c)
  rw [hR]
  have HR := hide hR
  clear hR h4 h13
  go_enter Try.func91, Try.ntmps91
  go_wp2
  clear hg
  go_loopw [3] (fun i wr => ∃ t : Nat, 3 ≤ t ∧ t ≤ 12 ∧ i = .int .i64 t ∧ Hid (rowF c (t - 2) = R) ∧ Blk wr g 76 (nvs c) ∧ Below g w wr) (fun i _ => (intOf i).toNat)
  case atStart => exact ⟨12, by omega, by omega, rfl, HR, HB, hbw⟩
  case round =>
    obtain ⟨t, h3, h12, rfl, hF, hB, hb⟩ := hrel
    obtain ⟨wo, rfl⟩ : ∃ wo : World, wo = wr := ⟨_, rfl⟩
    by_cases ht : 4 ≤ t
    · go_wp2
      go_loopw [4, 5] (fun is r wr => ∃ j q : Nat, t - 4 ≤ j ∧ j ≤ t + 1 ∧ r = .int .i64 j ∧ is = .bool (onesB c (t - 4) (j - (t - 4))) ∧ Hid (wr = wo.drewN q)) (fun _ r _ => t + 1 - (intOf r).toNat)
      case atStart => exact ⟨t - 4, 0, by omega, by omega, int_congr (by omega), by rw [Nat.sub_self, ones_zero], rfl⟩
      case round =>
        obtain ⟨j, q, hj1, hj2, rfl, rfl, hw⟩ := hrel
        have hB' : Blk wr g 76 (nvs c) := by rw [hw.out]; exact hB
        by_cases hj : j ≤ t
        · have hc := hB'.cell j
          rw [nvs_at _ _ (by rw [H13.out]; omega)] at hc
          have hst := ones_step c (t - 4) (j - (t - 4))
          rw [show t - 4 + (j - (t - 4)) = j by omega, show j - (t - 4) + 1 = j + 1 - (t - 4) by omega] at hst
          obtain ⟨v, hv⟩ := ex_eq (c.getD j 0)
          rw [hv] at hc hst
          have HW := hw
          cases hone : onesB c (t - 4) (j - (t - 4))
          · rw [hone] at hst
            have HST := hide hst
            clear hst hone hv hB'
            go_wp2
            go_roundw
            case rel => exact ⟨j + 1, q, by omega, by omega, by go_num, by rw [HST.out]; rfl, HW⟩
            case measure => simp [intOf]; omega
          · rw [hone] at hst
            have hb1 : ((v : Int) == 1) = (v == 1) := by rw [Bool.eq_iff_iff]; simp <;> omega
            have HST := hide hst
            clear hst hone hv hB'
            go_wp2
            go_roundw
            case rel => exact ⟨j + 1, q, by omega, by omega, by go_num, by rw [HST.out]; simp, HW⟩
            case measure => simp [intOf]; omega
        · obtain rfl : j = t + 1 := by omega
          rw [show t + 1 - (t - 4) = 5 by omega, ones_row c t ht h12]
          have hbq : Below g w wr := by rw [hw.out]; exact bdrewN hb _
          cases hrow : rowAt c t
          · have HF := hide (rowF_no h3 hrow)
            clear hrow
            go_wp2
            go_roundw
            case rel => exact ⟨t - 1, by omega, by omega, int_congr (by omega), by rw [← HF.out]; exact hF, hB', hbq⟩
            case measure => simp [intOf]; omega
          · have HF := hide (rowF_yes h3 hrow)
            clear hrow
            go_wp2
            go_ret
            exact ⟨ret_int (by rw [← hF.out, HF.out]), by rw [HG.out]; exact hbq⟩
    · obtain rfl : t = 3 := by omega
      have hr3 := row_three c
      have c0 := hB.cell 0
      have c1 := hB.cell 1
      have c2 := hB.cell 2
      have c3 := hB.cell 3
      have c12 := hB.cell 12
      rw [nvs_at _ _ (by rw [H13.out]; omega)] at c0 c1 c2 c3 c12
      obtain ⟨v0, h0⟩ := ex_eq (c.getD 0 0)
      obtain ⟨v1, h1⟩ := ex_eq (c.getD 1 0)
      obtain ⟨v2, h2⟩ := ex_eq (c.getD 2 0)
      obtain ⟨v3, h3'⟩ := ex_eq (c.getD 3 0)
      obtain ⟨v12, h12'⟩ := ex_eq (c.getD 12 0)
      rw [h0] at c0
      rw [h1] at c1
      rw [h2] at c2
      rw [h3'] at c3
      rw [h12'] at c12
      rw [h0, h1, h2, h3', h12'] at hr3
      clear h0 h1 h2 h3' h12'
      have HR3 := hide hr3
      have HNO := hide (fun h => rowF_no (c := c) (t := 3) (by omega) h)
      have HYES := hide (fun h => rowF_yes (c := c) (t := 3) (by omega) h)
      clear hr3
      by_cases e0 : v12 = 1
      rotate_left
      · have HF := hide (HNO.out (by rw [HR3.out]; simp [e0]))
        have b0 : ((v12 : Int) == 1) = false := by simp; omega
        clear e0
        go_wp2
        go_ret
        exact ⟨ret_int (by rw [← hF.out, HF.out]; rfl), by rw [HG.out]; exact hb⟩
      subst e0
      by_cases e1 : v0 = 1
      rotate_left
      · have HF := hide (HNO.out (by rw [HR3.out]; simp [e1]))
        have b1 : ((v0 : Int) == 1) = false := by simp; omega
        clear e1
        go_wp2
        go_ret
        exact ⟨ret_int (by rw [← hF.out, HF.out]; rfl), by rw [HG.out]; exact hb⟩
      subst e1
      by_cases e2 : v1 = 1
      rotate_left
      · have HF := hide (HNO.out (by rw [HR3.out]; simp [e2]))
        have b2 : ((v1 : Int) == 1) = false := by simp; omega
        clear e2
        go_wp2
        go_ret
        exact ⟨ret_int (by rw [← hF.out, HF.out]; rfl), by rw [HG.out]; exact hb⟩
      subst e2
      by_cases e3 : v2 = 1
      rotate_left
      · have HF := hide (HNO.out (by rw [HR3.out]; simp [e3]))
        have b3 : ((v2 : Int) == 1) = false := by simp; omega
        clear e3
        go_wp2
        go_ret
        exact ⟨ret_int (by rw [← hF.out, HF.out]; rfl), by rw [HG.out]; exact hb⟩
      subst e3
      by_cases e4 : v3 = 1
      rotate_left
      · have HF := hide (HNO.out (by rw [HR3.out]; simp [e4]))
        have b4 : ((v3 : Int) == 1) = false := by simp; omega
        clear e4
        go_wp2
        go_ret
        exact ⟨ret_int (by rw [← hF.out, HF.out]; rfl), by rw [HG.out]; exact hb⟩
      subst e4
      have HF := hide (HYES.out (by rw [HR3.out]; rfl))
      go_wp2
      go_ret
      exact ⟨ret_int (by rw [← hF.out, HF.out]; rfl), by rw [HG.out]; exact hb⟩

/-! ### one suit -/
theorem suit_no {xs : List Int} {k : Nat} (hk : k < xs.length) (h : xs.getD k 0 / 13 ≠ xs.getD 0 0 / 13) : suitB xs = false := by
  unfold suitB
  rw [List.all_eq_false]
  refine ⟨xs[k], List.getElem_mem hk, ?_⟩
  have e : xs.getD k 0 = xs[k] := by simp [List.getD, hk]
  rw [e] at h
  simpa using h
theorem suit_yes {xs : List Int} (h : ∀ k, k < xs.length → xs.getD k 0 / 13 = xs.getD 0 0 / 13) : suitB xs = true := by
  unfold suitB
  rw [List.all_eq_true]
  intro x hx
  obtain ⟨k, hk, rfl⟩ := List.mem_iff_getElem.1 hx
  have e : xs.getD k 0 = xs[k] := by simp [List.getD, hk]
  have := h k hk
  rw [e] at this
  simpa using this
theorem kindOf1_any (A : Option Addr) (n c : Nat) (xs : List Int) (B : Nat) (w : World) (g : Nat) (x : Int) (hR : Rd w B A n xs) (hn : 0 < n) (_hnc : n ≤ 1000)
    (hcap : w.cell? ⟨g, 0, none⟩ = some (.slice A n c)) (hx : 0 ≤ x ∧ x < 52) (h0 : 0 ≤ xs.getD 0 0 ∧ xs.getD 0 0 < 52) :
    Calls Try.prog 90 #[.int .i64 x, .pointer (some ⟨g, 0, none⟩)] w fun e w' => e = .returned (.bool (x / 13 != xs.getD 0 0 / 13)) ∧ ∃ q, w' = w.drewN q := by
  obtain ⟨b, o, rfl, hbB, hc⟩ := hR.at_ hn
  clear hR hbB
  obtain ⟨y, hy⟩ := ex_eq (xs.getD 0 0)
  rw [hy, Nat.add_zero] at hc
  rw [hy] at h0 ⊢
  clear hy
  obtain ⟨hx1, hx2⟩ := hx
  obtain ⟨h01, h02⟩ := h0
  go_enter Try.func90, Try.ntmps90
  go_wp2
  go_ret
  exact ⟨rfl, 0, rfl⟩

/-- what an index tells: whether all are of one suit -/
def suitIx (xs : List Int) (i : Int) : Prop := (suitB xs = true ∧ i = -1) ∨ (suitB xs = false ∧ 0 ≤ i ∧ i < 9223372036854775808)
set_option maxHeartbeats 1000000 in
theorem IndexFunc_suit (A : Option Addr) (n c : Nat) (xs : List Int) (B : Nat) (w : World) (g : Nat) (hR : Rd w B A n xs) (hn : 0 < n) (hnc : n ≤ 1000)
    (hcap : w.cell? ⟨g, 0, none⟩ = some (.slice A n c)) (hr : ∀ x ∈ xs, 0 ≤ x ∧ x < 52) :
    Calls Try.prog 106 #[.slice A n c, .func (.func 90) #[] #[.pointer (some ⟨g, 0, none⟩)]] w fun e w' => (∃ i, e = .returned (.int .i64 i) ∧ suitIx xs i) ∧ ∃ q, w' = w.drewN q := by
  have HL := hide hR.len
  have HRR := hide (show ∀ k, k < n → 0 ≤ xs.getD k 0 ∧ xs.getD k 0 < 52 from fun k hk => by
    have hkx : k < xs.length := by rw [HL.out]; exact hk
    have e : xs.getD k 0 = xs[k] := by simp [List.getD, hkx]
    rw [e]
    exact hr _ (List.getElem_mem hkx))
  have HCL := hide (fun q x hx => kindOf1_any A n c xs B (w.drewN q) g x (hR.drewN q) hn hnc hcap hx (HRR.out 0 hn))
  clear hcap
  clear hr
  go_enter Try.func106, Try.ntmps106
  go_wp2
  go_loopw [8] (fun i wr => ∃ k q : Nat, k ≤ n ∧ i = .int .i64 k ∧ Hid (∀ j, j < k → xs.getD j 0 / 13 = xs.getD 0 0 / 13) ∧ Hid (wr = w.drewN q)) (fun i _ => n - (intOf i).toNat)
  case atStart => exact ⟨0, 0, Nat.zero_le _, rfl, fun j hj => absurd hj (Nat.not_lt_zero j), rfl⟩
  case round =>
    obtain ⟨k, q, hk, rfl, hno, hw⟩ := hrel
    by_cases hlt : k < n
    · have hR' : Rd wr B A n xs := by rw [hw.out]; exact hR
      have hx := HRR.out k hlt
      obtain ⟨b, o, rfl, hbB, hc⟩ := hR'.at_ hlt
      have hkx : k < xs.length := by rw [HL.out]; exact hlt
      clear hR hR' hbB
      obtain ⟨x, hxe⟩ := ex_eq (xs.getD k 0)
      rw [hxe] at hc hx
      have HXE := hide hxe
      by_cases hy : x / 13 = xs.getD 0 0 / 13
      · have hb : (x / 13 != xs.getD 0 0 / 13) = false := by simpa using hy
        have HY := hide hy
        have HC := hide (show Calls Try.prog 90 #[.int .i64 x, .pointer (some ⟨g, 0, none⟩)] wr fun e w' => e = .returned (.bool false) ∧ ∃ q, w' = wr.drewN q by
          have h := HCL.out q x hx
          rw [hb, ← hw.out] at h
          exact h)
        clear hy hxe hb HCL
        go_wp2_with (go_at_call 90; refine HC.out.mono ?_; rintro e w' ⟨rfl, q2, rfl⟩)
        go_roundw
        case rel => exact ⟨k + 1, q + q2, by omega, by go_num, fun j hj => by rcases Nat.lt_succ_iff_lt_or_eq.1 hj with h | h; exact hno.out j h; rw [h, HXE.out]; exact HY.out, hide (by rw [hw.out, World.drewN_drewN])⟩
        case measure => simp [intOf]; omega
      · have hb : (x / 13 != xs.getD 0 0 / 13) = true := by simpa using hy
        have HF := hide (suit_no hkx (by rw [hxe]; exact hy))
        have HC := hide (show Calls Try.prog 90 #[.int .i64 x, .pointer (some ⟨g, 0, none⟩)] wr fun e w' => e = .returned (.bool true) ∧ ∃ q, w' = wr.drewN q by
          have h := HCL.out q x hx
          rw [hb, ← hw.out] at h
          exact h)
        clear hy hxe hb HCL hkx
        go_wp2_with (go_at_call 90; refine HC.out.mono ?_; rintro e w' ⟨rfl, q2, rfl⟩)
        go_ret
        exact ⟨⟨_, rfl, .inr ⟨HF.out, by omega, by omega⟩⟩, q + q2, by rw [hw.out, World.drewN_drewN]⟩
    · obtain rfl : k = n := by omega
      have HN := hide (suit_yes (xs := xs) (fun j hj => hno.out j (by rw [← HL.out]; exact hj)))
      clear hR HCL
      go_wp2_with fail
      go_ret
      exact ⟨⟨_, rfl, .inl ⟨HN.out, rfl⟩⟩, q, hw.out⟩
theorem ContainsFunc_suit (A : Option Addr) (n c : Nat) (xs : List Int) (B : Nat) (w : World) (g : Nat) (hR : Rd w B A n xs) (hn : 0 < n) (hnc : n ≤ 1000)
    (hcap : w.cell? ⟨g, 0, none⟩ = some (.slice A n c)) (hr : ∀ x ∈ xs, 0 ≤ x ∧ x < 52) :
    Calls Try.prog 89 #[.slice A n c, .func (.func 90) #[] #[.pointer (some ⟨g, 0, none⟩)]] w fun e w' => e = .returned (.bool (!suitB xs)) ∧ ∃ q, w' = w.drewN q := by
  have HI := hide (IndexFunc_suit A n c xs B w g hR hn hnc hcap hr)
  obtain ⟨E, hE⟩ := ex_eq (suitB xs)
  rw [hE]
  have HE := hide hE
  clear hR hE hcap hr
  go_enter Try.func89, Try.ntmps89
  go_wp2_with fail
  refine HI.out.mono ?_
  rintro e w' ⟨⟨i, rfl, hi⟩, q, rfl⟩
  rcases hi with ⟨h1, rfl⟩ | ⟨h1, h2, h3⟩
  · have HF := hide (HE.out.symm.trans h1)
    clear h1 HI
    go_wp2
    go_ret
    exact ⟨by rw [HF.out]; rfl, q, rfl⟩
  · have HF := hide (HE.out.symm.trans h1)
    have hd : decide (0 ≤ i) = true := by simpa using h2
    clear h1 HI
    go_wp2
    go_ret
    exact ⟨by rw [HF.out]; rfl, q, rfl⟩

/-! ### the kind -/
/-- how many of the first k counts are v, for each v -/
def mnyT (c : List Nat) (k : Nat) : List Nat := (List.range 6).map fun v => (c.take k).countP (· == v)
theorem mnyT_len (c : List Nat) (k : Nat) : (mnyT c k).length = 6 := by simp [mnyT]
theorem mnyT_at (c : List Nat) (k v : Nat) (hv : v < 6) : (mnyT c k).getD v 0 = (c.take k).countP (· == v) := by
  unfold mnyT
  simp [List.getD, hv]
theorem mnyT_le (c : List Nat) (k v : Nat) (hv : v < 6) : (mnyT c k).getD v 0 ≤ k := by
  rw [mnyT_at c k v hv]
  exact Nat.le_trans List.countP_le_length (by rw [List.length_take]; omega)
theorem mnyT_step (c : List Nat) (k : Nat) (hk : k < c.length) (hv : c.getD k 0 < 6) : mnyT c (k + 1) = (mnyT c k).set (c.getD k 0) ((mnyT c k).getD (c.getD k 0) 0 + 1) := by
  have e : c.getD k 0 = c[k] := by simp [List.getD, hk]
  rw [mnyT_at _ _ _ hv]
  apply List.ext_getElem
  · simp [mnyT]
  · intro i h1 h2
    rw [List.getElem_set]
    simp only [mnyT, List.getElem_map, List.getElem_range, List.take_succ_eq_append_getElem hk, List.countP_append, List.countP_cons, List.countP_nil, e]
    by_cases h : c[k] = i
    · simp [h]
    · simp [h]
theorem mnyT_all (c : List Nat) (h : c.length = 13) (v : Nat) (hv : v < 6) : (mnyT c 13).getD v 0 = manyI c v := by
  rw [mnyT_at c 13 v hv, List.take_of_length_le (by omega)]
  rfl
theorem idx13 (c : List Nat) (h : c.length = 13) (k : Nat) (hk : k < 13) (w : World) : (Instr.index 76 (.agg (nvs c)) (.int .i64 (k : Int))).run Try.prog w = .ok (.int .i64 ((c.getD k 0 : Nat) : Int)) w := by
  match c, h with
  | [c0, c1, c2, c3, c4, c5, c6, c7, c8, c9, c10, c11, c12], _ =>
    obtain rfl | rfl | rfl | rfl | rfl | rfl | rfl | rfl | rfl | rfl | rfl | rfl | rfl : k = 0 ∨ k = 1 ∨ k = 2 ∨ k = 3 ∨ k = 4 ∨ k = 5 ∨ k = 6 ∨ k = 7 ∨ k = 8 ∨ k = 9 ∨ k = 10 ∨ k = 11 ∨ k = 12 := by omega
    all_goals (show _ = _; kernel_rfl)

set_option maxRecDepth 100000 in
set_option maxHeartbeats 2000000 in
theorem kindOf_any (A : Option Addr) (c : Nat) (xs : List Int) (B : Nat) (w : World) (hR : Rd w B A 5 xs) (hB : B ≤ w.heap.size) (hn : xs.Nodup) (hr : ∀ x ∈ xs, 0 ≤ x ∧ x < 52) :
    Calls Try.prog 56 #[.slice A 5 c] w fun e w' => e = .returned (.int .i64 (kindL xs)) ∧ Below w.heap.size w w' := by
  have h13 := cntN_len xs
  have h4 := cntN_four xs hn hr
  have hk : kindL xs = kindI (suitB xs) (cntN xs) := by
    have h5 := cntN_sum xs
    rw [hR.len] at h5
    unfold kindL
    rw [kind_eq _ _ h13 (cntN_mem xs hn hr) h5]
  have HRK := hide (fun (q : World) (hb : Below w.heap.size w q) => rankCounts_any A 5 c xs w.heap.size q (((hR.more hB).below hb)) hb.size (by omega) hr)
  have HCF := hide (fun (q : World) (hb : Below w.heap.size w q) (g : Nat) hc => ContainsFunc_suit A 5 c xs w.heap.size q g ((hR.more hB).below hb) (by omega) (by omega) hc hr)
  have hRW := rowOf_any (cntN xs) h13 (fun r => by have := h4 r; omega)
  have HRW := hide hRW
  obtain ⟨cs, hcs⟩ := ex_eq (cntN xs)
  rw [hcs] at HRK HRW h13 h4 hk
  rw [hk]
  have H13 := hide h13
  have H4 := hide h4
  have hsz : (nvs cs).size = 13 := by rw [nvs_size, h13]
  have hsc : ∀ W : World, (storeCells ⟨W.heap.size, 0, none⟩ (nvs cs).toList 0).run Try.prog (W.alloc (.cells #[.int .i64 0, .int .i64 0, .int .i64 0, .int .i64 0, .int .i64 0, .int .i64 0, .int .i64 0, .int .i64 0, .int .i64 0, .int .i64 0, .int .i64 0, .int .i64 0, .int .i64 0] 76)) = .ok () (W.alloc (.cells (nvs cs) 76)) :=
    fun W => run_storeCells_new W _ _ _ (by rw [hsz]; exact info13) (by rw [hsz]; rfl) (by rw [← Array.all_toList, List.all_eq_true]; exact nvs_one cs)
  have HSC := hide hsc
  clear hR hn hr hRW hcs hk h13 h4 hsc
  obtain ⟨E, hE⟩ := ex_eq (kindI (suitB xs) cs)
  rw [hE]
  have HE := hide hE
  clear hE
  go_enter Try.func56, Try.ntmps56
  go_upto_region 3 with (go_at_call 88; refine (HRK.out _ ((Below.refl _ _).alloc (Nat.le_refl _) _)).mono ?_; rintro e w1 ⟨rfl, hb1⟩; have hsc1 := HSC.out w1)
  have hbox := (Blk.new w 22 #[.slice A 5 c]).below hb1 (by simp)
  have hbw := ((Below.refl w.heap.size w).alloc (Nat.le_refl _) (.cells #[.slice A 5 c] 22)).trans (hb1.mono (by simp))
  have hlt1 : w.heap.size < w1.heap.size := by have := hb1.size; simp at this; omega
  have h3 := (Blk.new w1 76 (nvs cs)).alloc (.cells #[.int .i64 0, .int .i64 0, .int .i64 0, .int .i64 0, .int .i64 0, .int .i64 0] 78)
  have h6 : Blk _ _ 78 (nvs (mnyT cs 0)) := Blk.new (w1.alloc (.cells (nvs cs) 76)) 78 #[.int .i64 0, .int .i64 0, .int .i64 0, .int .i64 0, .int .i64 0, .int .i64 0]
  rw [show (w1.alloc (.cells (nvs cs) 76)).heap.size = w1.heap.size + 1 by simp] at h6
  have hbx := (hbox.alloc (.cells (nvs cs) 76)).alloc (.cells #[.int .i64 0, .int .i64 0, .int .i64 0, .int .i64 0, .int .i64 0, .int .i64 0] 78)
  have hbb := (hbw.alloc (by omega) (.cells (nvs cs) 76)).alloc (by simp; omega) (.cells #[.int .i64 0, .int .i64 0, .int .i64 0, .int .i64 0, .int .i64 0, .int .i64 0] 78)
  have H3 := hide h3
  have H6 := hide h6
  have HBX := hide hbx
  have HBB := hide hbb
  clear hbox hbw hb1 hsc1 h6 hbx hbb hB hsz
  go_wp2_with (refine wpList_load_row rfl 76 (.tmp 3) rfl w1.heap.size rfl 76 (nvs cs) (0, 0) _ h3 Try.underlying76 rfl (by rw [nvs_size, H13.out]; exact info13) ?_)
  clear h3
  go_loopw [13] (fun i wr => ∃ k : Nat, k ≤ 13 ∧ i = .int .i64 k ∧ Blk wr w1.heap.size 76 (nvs cs) ∧ Blk wr (w1.heap.size + 1) 78 (nvs (mnyT cs k)) ∧ Blk wr w.heap.size 22 #[.slice A 5 c] ∧ Below w.heap.size w wr) (fun i _ => 13 - (intOf i).toNat)
  case atStart => exact ⟨0, Nat.zero_le _, rfl, H3.out, H6.out, HBX.out, HBB.out⟩
  case round =>
    obtain ⟨k, hk, rfl, h3, h6, hbx, hbb⟩ := hrel
    by_cases hlt : k < 13
    · have hix := idx13 cs H13.out k hlt
      have hv4 := H4.out k
      have hst := mnyT_step cs k (by rw [H13.out]; exact hlt) (by omega)
      have hle := mnyT_le cs k (cs.getD k 0) (by omega)
      obtain ⟨v, hv⟩ := ex_eq (cs.getD k 0)
      rw [hv] at hix hv4 hst hle
      have hc := h6.cell v
      rw [nvs_at _ _ (by rw [mnyT_len]; omega)] at hc
      have hf := h6.frozen v
      have hput := h6.put v (.int .i64 (((mnyT cs k).getD v 0 : Nat) + 1))
      rw [nvs_set _ _ ((mnyT cs k).getD v 0 + 1) _ (by go_num), ← hst] at hput
      obtain ⟨m, hm⟩ := ex_eq ((mnyT cs k).getD v 0)
      rw [hm] at hc hle hput
      have HP6 := hide hput
      have HP3 := hide (h3.far (p := ⟨w1.heap.size + 1, v, none⟩) (by simp) (.int .i64 ((m : Int) + 1)))
      have HPX := hide (hbx.far (p := ⟨w1.heap.size + 1, v, none⟩) (by simp; omega) (.int .i64 ((m : Int) + 1)))
      have HPB := hide (hbb.setCell (p := ⟨w1.heap.size + 1, v, none⟩) (by simp; omega) (.int .i64 ((m : Int) + 1)))
      clear hm hput hv hst h3 h6 hbx hbb
      go_wp2
      go_roundw
      case rel => exact ⟨k + 1, by omega, by go_num, HP3.out, HP6.out, HPX.out, HPB.out⟩
      case measure => simp [intOf]; omega
    · obtain rfl : k = 13 := by omega
      have hcx : wr.cell? ⟨w.heap.size, 0, none⟩ = some (.slice A 5 c) := hbx.cell 0
      have hmf : ∀ (fn : Fn) (first cap : Array Value) (w : World), (Instr.makeFunc fn first cap).run Try.prog w = .ok (.func fn first cap) w := fun _ _ _ _ => rfl
      have hm2 := mnyT_all cs H13.out 2 (by omega)
      have hm3 := mnyT_all cs H13.out 3 (by omega)
      have hm4 := mnyT_all cs H13.out 4 (by omega)
      have c2 := h6.cell 2
      have c3 := h6.cell 3
      have c4 := h6.cell 4
      rw [nvs_at _ _ (by rw [mnyT_len]; omega)] at c2 c3 c4
      rw [hm2] at c2
      rw [hm3] at c3
      rw [hm4] at c4
      obtain ⟨R, hR⟩ := ex_eq (rowV cs)
      have hdef : E = if suitB xs = true ∧ 0 ≤ R then 8 else if manyI cs 4 = 1 then 7 else if manyI cs 3 = 1 ∧ manyI cs 2 = 1 then 6 else if suitB xs = true then 5
          else if 0 ≤ R then 4 else if manyI cs 3 = 1 then 3 else if manyI cs 2 = 2 then 2 else if manyI cs 2 = 1 then 1 else 0 := by rw [← HE.out, ← hR]; rfl
      rw [hR] at HRW
      obtain ⟨m2, h2⟩ := ex_eq (manyI cs 2)
      obtain ⟨m3, h3'⟩ := ex_eq (manyI cs 3)
      obtain ⟨m4, h4'⟩ := ex_eq (manyI cs 4)
      obtain ⟨S, hS⟩ := ex_eq (suitB xs)
      rw [h2, h3', h4', hS] at hdef
      rw [h2] at c2
      rw [h3'] at c3
      rw [h4'] at c4
      rw [hS] at HCF
      have HC2 := hide c2
      have HC3 := hide c3
      have HC4 := hide c4
      have hlt6 := h6.lt
      clear hm2 hm3 hm4 hR h2 h3' h4' hS c2 c3 c4 HRK H4 h6 hbx hlt
      have HD := hide hdef
      clear hdef
      go_upto_region 10 with (first | (go_at_call 89; refine (HCF.out _ hbb _ hcx).mono ?_; rintro e w' ⟨rfl, q, rfl⟩) | (refine wpList_load_row rfl 76 (.tmp 3) rfl w1.heap.size rfl 76 (nvs cs) (0, 0) _ (h3.drewN q) Try.underlying76 rfl (by rw [nvs_size, H13.out]; exact info13) ?_) | (go_at_call 91; refine (HRW.out _).mono ?_; rintro e w5 ⟨rfl, hb5⟩))
      have hd5 : Below w.heap.size w w5 := (bdrewN hbb q).trans (hb5.mono (Nat.le_of_lt (Nat.lt_of_lt_of_le hlt1 (Nat.le_of_lt (Nat.lt_of_succ_lt hlt6)))))
      have c2 : w5.cell? ⟨w1.heap.size + 1, 2, none⟩ = some (.int .i64 m2) := (hb5.cell (p := ⟨w1.heap.size + 1, 2, none⟩) hlt6).trans HC2.out
      have c3 : w5.cell? ⟨w1.heap.size + 1, 3, none⟩ = some (.int .i64 m3) := (hb5.cell (p := ⟨w1.heap.size + 1, 3, none⟩) hlt6).trans HC3.out
      have c4 : w5.cell? ⟨w1.heap.size + 1, 4, none⟩ = some (.int .i64 m4) := (hb5.cell (p := ⟨w1.heap.size + 1, 4, none⟩) hlt6).trans HC4.out
      have HBW := hide hd5
      clear hd5 hb5 hlt6 hlt1 h3 hbb hcx hmf hk
      cases S
      · by_cases hR0 : 0 ≤ R
        · skip
          by_cases e4 : m4 = 1
          · skip
            have HF := hide (show E = 7 by rw [HD.out]; simp [hR0, e4])
            have b41 : ((m4 : Int) == 1) = true := by simp <;> omega
            clear e4
            go_wp2
            go_ret
            exact ⟨ret_int (by rw [HF.out]; rfl), HBW.out⟩
          by_cases e31 : m3 = 1
          · by_cases e21 : m2 = 1
            · skip
              have HF := hide (show E = 6 by rw [HD.out]; simp [hR0, e4, e31, e21])
              have b41 : ((m4 : Int) == 1) = false := by simp <;> omega
              have b31 : ((m3 : Int) == 1) = true := by simp <;> omega
              have b21 : ((m2 : Int) == 1) = true := by simp <;> omega
              clear e4 e31 e21
              go_wp2
              go_ret
              exact ⟨ret_int (by rw [HF.out]; rfl), HBW.out⟩
            have HF := hide (show E = 4 by rw [HD.out]; simp [hR0, e4, e31, e21])
            have b41 : ((m4 : Int) == 1) = false := by simp <;> omega
            have b31 : ((m3 : Int) == 1) = true := by simp <;> omega
            have b21 : ((m2 : Int) == 1) = false := by simp <;> omega
            clear e4 e31 e21
            go_wp2
            go_ret
            exact ⟨ret_int (by rw [HF.out]; rfl), HBW.out⟩
          have HF := hide (show E = 4 by rw [HD.out]; simp [hR0, e4, e31])
          have b41 : ((m4 : Int) == 1) = false := by simp <;> omega
          have b31 : ((m3 : Int) == 1) = false := by simp <;> omega
          clear e4 e31
          go_wp2
          go_ret
          exact ⟨ret_int (by rw [HF.out]; rfl), HBW.out⟩
        · skip
          by_cases e4 : m4 = 1
          · skip
            have HF := hide (show E = 7 by rw [HD.out]; simp [hR0, e4])
            have b41 : ((m4 : Int) == 1) = true := by simp <;> omega
            clear e4
            go_wp2
            go_ret
            exact ⟨ret_int (by rw [HF.out]; rfl), HBW.out⟩
          by_cases e31 : m3 = 1
          · by_cases e21 : m2 = 1
            · skip
              have HF := hide (show E = 6 by rw [HD.out]; simp [hR0, e4, e31, e21])
              have b41 : ((m4 : Int) == 1) = false := by simp <;> omega
              have b31 : ((m3 : Int) == 1) = true := by simp <;> omega
              have b21 : ((m2 : Int) == 1) = true := by simp <;> omega
              clear e4 e31 e21
              go_wp2
              go_ret
              exact ⟨ret_int (by rw [HF.out]; rfl), HBW.out⟩
            have HF := hide (show E = 3 by rw [HD.out]; simp [hR0, e4, e31, e21])
            have b41 : ((m4 : Int) == 1) = false := by simp <;> omega
            have b31 : ((m3 : Int) == 1) = true := by simp <;> omega
            have b21 : ((m2 : Int) == 1) = false := by simp <;> omega
            clear e4 e31 e21
            go_wp2
            go_ret
            exact ⟨ret_int (by rw [HF.out]; rfl), HBW.out⟩
          by_cases e22 : m2 = 2
          · skip
            have HF := hide (show E = 2 by rw [HD.out]; simp [hR0, e4, e31, e22])
            have b41 : ((m4 : Int) == 1) = false := by simp <;> omega
            have b31 : ((m3 : Int) == 1) = false := by simp <;> omega
            have b22 : ((m2 : Int) == 2) = true := by simp <;> omega
            clear e4 e31 e22
            go_wp2
            go_ret
            exact ⟨ret_int (by rw [HF.out]; rfl), HBW.out⟩
          by_cases e21 : m2 = 1
          · skip
            have HF := hide (show E = 1 by rw [HD.out]; simp [hR0, e4, e31, e21])
            have b41 : ((m4 : Int) == 1) = false := by simp <;> omega
            have b31 : ((m3 : Int) == 1) = false := by simp <;> omega
            have b22 : ((m2 : Int) == 2) = false := by simp <;> omega
            have b21 : ((m2 : Int) == 1) = true := by simp <;> omega
            clear e4 e31 e22 e21
            go_wp2
            go_ret
            exact ⟨ret_int (by rw [HF.out]; rfl), HBW.out⟩
          have HF := hide (show E = 0 by rw [HD.out]; simp [hR0, e4, e31, e22, e21])
          have b41 : ((m4 : Int) == 1) = false := by simp <;> omega
          have b31 : ((m3 : Int) == 1) = false := by simp <;> omega
          have b22 : ((m2 : Int) == 2) = false := by simp <;> omega
          have b21 : ((m2 : Int) == 1) = false := by simp <;> omega
          clear e4 e31 e22 e21
          go_wp2
          go_ret
          exact ⟨ret_int (by rw [HF.out]; rfl), HBW.out⟩
      · by_cases hR0 : 0 ≤ R
        · skip
          have HF := hide (show E = 8 by rw [HD.out]; simp [hR0])
          go_wp2
          go_ret
          exact ⟨ret_int (by rw [HF.out]; rfl), HBW.out⟩
        · skip
          by_cases e4 : m4 = 1
          · skip
            have HF := hide (show E = 7 by rw [HD.out]; simp [hR0, e4])
            have b41 : ((m4 : Int) == 1) = true := by simp <;> omega
            clear e4
            go_wp2
            go_ret
            exact ⟨ret_int (by rw [HF.out]; rfl), HBW.out⟩
          by_cases e31 : m3 = 1
          · by_cases e21 : m2 = 1
            · skip
              have HF := hide (show E = 6 by rw [HD.out]; simp [hR0, e4, e31, e21])
              have b41 : ((m4 : Int) == 1) = false := by simp <;> omega
              have b31 : ((m3 : Int) == 1) = true := by simp <;> omega
              have b21 : ((m2 : Int) == 1) = true := by simp <;> omega
              clear e4 e31 e21
              go_wp2
              go_ret
              exact ⟨ret_int (by rw [HF.out]; rfl), HBW.out⟩
            have HF := hide (show E = 5 by rw [HD.out]; simp [hR0, e4, e31, e21])
            have b41 : ((m4 : Int) == 1) = false := by simp <;> omega
            have b31 : ((m3 : Int) == 1) = true := by simp <;> omega
            have b21 : ((m2 : Int) == 1) = false := by simp <;> omega
            clear e4 e31 e21
            go_wp2
            go_ret
            exact ⟨ret_int (by rw [HF.out]; rfl), HBW.out⟩
          have HF := hide (show E = 5 by rw [HD.out]; simp [hR0, e4, e31])
          have b41 : ((m4 : Int) == 1) = false := by simp <;> omega
          have b31 : ((m3 : Int) == 1) = false := by simp <;> omega
          clear e4 e31
          go_wp2
          go_ret
          exact ⟨ret_int (by rw [HF.out]; rfl), HBW.out⟩


end Go.Proofs.Ytlldocdmjeeaaaa.hand
