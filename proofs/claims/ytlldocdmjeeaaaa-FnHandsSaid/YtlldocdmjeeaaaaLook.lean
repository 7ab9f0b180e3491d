/-
  The kind and the value of five cards, in the reference. Conditions: those of each theorem.
-/
import Derived.Test.YtlldocdmjeeaaaaKind
import Derived.Deep.CutBlock
namespace Go.Proofs.Ytlldocdmjeeaaaa.hand
open Go.RowKit
open base mem

def downB (c : List Nat) (t j : Nat) : Bool := (List.range j).all fun k => c.getD ((t + 13 - k) % 13) 0 == 1
theorem down_step (c : List Nat) (t j : Nat) : downB c t (j + 1) = (downB c t j && c.getD ((t + 13 - j) % 13) 0 == 1) := by
  unfold downB
  rw [List.range_succ, List.all_append]
  simp
theorem down_row (c : List Nat) (t : Nat) : downB c t 5 = rowAt c t := rfl
set_option maxHeartbeats 2000000 in
theorem l03Row_any (A : Option Addr) (cc : Nat) (c : List Nat) (B : Nat) (w : World) (hR : Rd w B A 13 (c.map fun (n : Nat) => (n : Int))) (h4 : ∀ r, c.getD r 0 ≤ 1000) :
    Calls Try.prog 87 #[.slice A 13 cc] w fun e w' => e = .returned (.int .i64 (rowV c)) ∧ ∃ q, w' = w.drewN q := by
  have H4 := hide h4
  obtain ⟨R, hRR⟩ := ex_eq (rowV c)
  rw [hRR]
  have HR := hide hRR
  obtain ⟨b, o, rfl, hbB, hc⟩ := hR.2 (by omega)
  have HC := hide (show ∀ k, k < 13 → w.cell? ⟨b, o + k, none⟩ = some (.int .i64 ((c.getD k 0 : Nat) : Int)) from fun k hk => by
    rw [hc k hk]
    have : (c.map fun (n : Nat) => (n : Int)).getD k 0 = ((c.getD k 0 : Nat) : Int) := by
      have hl : k < c.length := by have := hR.len; simp at this; omega
      simp [List.getD, hl]
    rw [this])
  clear hRR h4 hR hc
  go_enter Try.func87, Try.ntmps87
  go_wp2
  go_loopw [3] (fun i wr => ∃ t q : Nat, 2 ≤ t ∧ t ≤ 12 ∧ i = .int .i64 t ∧ Hid (rowF c (t - 2) = R) ∧ Hid (wr = w.drewN q)) (fun i _ => (intOf i).toNat)
  case atStart => exact ⟨12, 0, by omega, by omega, rfl, HR, rfl⟩
  case round =>
    obtain ⟨t, q, h3, h12, rfl, hF, hw⟩ := hrel
    obtain ⟨wo, rfl⟩ : ∃ wo : World, wo = wr := ⟨_, rfl⟩
    by_cases h3' : 3 ≤ t
    · go_wp2
      go_loopw [4, 5] (fun is r wr => ∃ j q : Nat, j ≤ 5 ∧ r = .int .i64 j ∧ is = .bool (downB c t j) ∧ Hid (wr = w.drewN q)) (fun _ r _ => 5 - (intOf r).toNat)
      case atStart => exact ⟨0, q, by omega, rfl, rfl, hw⟩
      case round =>
        obtain ⟨j, q, hj5, rfl, rfl, hw⟩ := hrel
        by_cases hj : j < 5
        · have hst := down_step c t j
          have hc := HC.out ((t + 13 - j) % 13) (Nat.mod_lt _ (by decide))
          obtain ⟨v, hv⟩ := ex_eq (c.getD ((t + 13 - j) % 13) 0)
          rw [hv] at hc hst
          have hcw : wr.cell? ⟨b, o + (t + 13 - j) % 13, none⟩ = some (.int .i64 (v : Int)) := by rw [hw.out]; exact hc
          have hb1 : ((v : Int) == 1) = (v == 1) := by rw [Bool.eq_iff_iff]; simp <;> omega
          by_cases hlo : t < j
          · rw [show (t + 13 - j) % 13 = ((t : Int) - (j : Int) + 13).toNat by omega] at hcw
            cases hone : downB c t j
            all_goals
              rw [hone] at hst
              have HST := hide hst
              clear hst hone hv hc
              go_wp2
              go_roundw
              case rel => exact ⟨j + 1, q, by omega, by go_num, by rw [HST.out]; simp, hw⟩
              case measure => simp [intOf]; omega
          · rw [show (t + 13 - j) % 13 = t - j by omega] at hcw
            cases hone : downB c t j
            all_goals
              rw [hone] at hst
              have HST := hide hst
              clear hst hone hv hc
              go_wp2
              go_roundw
              case rel => exact ⟨j + 1, q, by omega, by go_num, by rw [HST.out]; simp, hw⟩
              case measure => simp [intOf]; omega
        · obtain rfl : j = 5 := by omega
          rw [down_row c t]
          cases hrow : rowAt c t
          · have HF := hide (rowF_no h3' hrow)
            clear hrow
            go_wp2
            go_roundw
            case rel => exact ⟨t - 1, q, by omega, by omega, int_congr (by omega), by rw [← HF.out]; exact hF, hw⟩
            case measure => simp [intOf]; omega
          · have HF := hide (rowF_yes h3' hrow)
            clear hrow
            go_wp2
            go_ret
            exact ⟨ret_int (by rw [← hF.out, HF.out]), q, hw.out⟩
    · obtain rfl : t = 2 := by omega
      have HF := hide (show rowF c (2 - 2) = -1 from rfl)
      go_wp2
      go_ret
      exact ⟨ret_int (by rw [← hF.out, HF.out]), q, hw.out⟩

/-! ### the whole look -/
def castL (l : List Nat) : List Int := l.map fun (n : Nat) => (n : Int)
theorem castL_len (l : List Nat) : (castL l).length = l.length := by simp [castL]
theorem castL_at (l : List Nat) (k : Nat) : (castL l).getD k 0 = ((l.getD k 0 : Nat) : Int) := by
  unfold castL
  by_cases h : k < l.length
  · simp [List.getD, h]
  · simp [List.getD, h]
theorem castL_app (a b : List Nat) : castL (a ++ b) = castL a ++ castL b := by simp [castL]
theorem nvs_ivs (c : List Nat) : nvs c = (ivs (castL c)).toArray := by simp [nvs, ivs, castL, Function.comp]
def suitT (xs : List Int) (k : Nat) : Bool := (xs.take k).all fun x => x / 13 == xs.getD 0 0 / 13
theorem suitT_step {xs : List Int} {k n : Nat} (h : xs.length = n) (hk : k < n) : suitT xs (k + 1) = (suitT xs k && xs.getD k 0 / 13 == xs.getD 0 0 / 13) := by
  have hkx : k < xs.length := by omega
  have e : xs.getD k 0 = xs[k] := by simp [List.getD, hkx]
  unfold suitT
  rw [List.take_succ_eq_append_getElem hkx, List.all_append, e]
  simp
theorem suitT_all {xs : List Int} {n : Nat} (h : xs.length = n) : suitT xs n = suitB xs := by
  unfold suitT suitB
  rw [List.take_of_length_le (by omega)]
/-- a block that is known whole reads as a list -/
theorem blk_rd {w : World} {g n : Nat} {cs : List Nat} (h : Blk w g 2 (nvs cs)) (hn : cs.length = n) : Rd w w.heap.size (some ⟨g, 0, none⟩) n (castL cs) := by
  refine ⟨by rw [castL_len, hn], fun _ => ⟨g, 0, rfl, h.lt, fun k hk => ?_⟩⟩
  rw [Nat.zero_add, h.cell, nvs_at _ _ (by omega), castL_at]

theorem ordS_pos (c : List Nat) (n : Nat) (h : 1 ≤ n) : ordS c n = ordR c n 13 ++ ordS c (n - 1) := by
  obtain ⟨m, rfl⟩ : ∃ m, n = m + 1 := ⟨n - 1, by omega⟩
  rfl
theorem manS_pos (c : List Nat) (n : Nat) (h : 1 ≤ n) : manS c n = manR c n 13 ++ manS c (n - 1) := by
  obtain ⟨m, rfl⟩ : ∃ m, n = m + 1 := ⟨n - 1, by omega⟩
  rfl
theorem ordR_no {c : List Nat} {n p : Nat} (h : c.getD p 0 ≠ n) : ordR c n (p + 1) = ordR c n p := by rw [ordR, if_neg h]
theorem ordR_yes {c : List Nat} {n p : Nat} (h : c.getD p 0 = n) : ordR c n (p + 1) = List.replicate n p ++ ordR c n p := by rw [ordR, if_pos h]
theorem manR_no {c : List Nat} {n p : Nat} (h : c.getD p 0 ≠ n) : manR c n (p + 1) = manR c n p := by rw [manR, if_neg h]
theorem manR_yes {c : List Nat} {n p : Nat} (h : c.getD p 0 = n) : manR c n (p + 1) = n :: manR c n p := by rw [manR, if_pos h]
theorem man_le (c : List Nat) (h13 : c.length = 13) (h4 : ∀ a ∈ c, a ≤ 4) (h5 : c.sum = 5) : (manN c).length ≤ 5 := by
  rcases many_ways c h13 h4 h5 with ⟨_, _, _, em⟩ | ⟨_, _, _, em⟩ | ⟨_, _, _, em⟩ | ⟨_, _, _, em⟩ | ⟨_, _, _, em⟩ | ⟨_, _, _, em⟩
  all_goals rw [em]; decide
theorem len_of_app {a b c : List Nat} (h : a ++ b = c) : a.length ≤ c.length := by rw [← h, List.length_append]; omega

set_option maxRecDepth 100000 in
set_option maxHeartbeats 4000000 in
theorem l03Look_any (A : Option Addr) (cc : Nat) (xs : List Int) (B : Nat) (w : World) (hR : Rd w B A 5 xs) (hB : B ≤ w.heap.size) (hn : xs.Nodup) (hr : ∀ x ∈ xs, 0 ≤ x ∧ x < 52) :
    Calls Try.prog 55 #[.slice A 5 cc] w fun e w' => e = .returned (.tuple #[.int .i64 (kindL xs), .int .i64 (valL xs)]) ∧ Below w.heap.size w w' := by
  have h13 := cntN_len xs
  have h4 := cntN_four xs hn hr
  have h4m := cntN_mem xs hn hr
  have h5 := cntN_sum xs
  rw [hR.len] at h5
  have HL := hide hR.len
  have HRR := hide (show ∀ k, k < 5 → ∃ x : Nat, xs.getD k 0 = (x : Int) ∧ x < 52 from fun k hk => by
    have hkx : k < xs.length := by rw [HL.out]; exact hk
    have e : xs.getD k 0 = xs[k] := by simp [List.getD, hkx]
    have h := hr _ (List.getElem_mem hkx)
    obtain ⟨x, hx⟩ := Int.eq_ofNat_of_zero_le h.1
    exact ⟨x, by rw [e, hx], by omega⟩)
  have hol := ordN_len hn hr
  have hRR := hR.more hB
  obtain ⟨x0, hx0, hx0'⟩ := HRR.out 0 (by omega)
  obtain ⟨b, o, rfl, hbB, hc0⟩ := hRR.at_ (show 0 < 5 by omega)
  rw [hx0, Nat.add_zero] at hc0
  have HX0 := hide hx0
  obtain ⟨EK, hEK⟩ := ex_eq (kindL xs)
  obtain ⟨EV, hEV⟩ := ex_eq (valL xs)
  rw [hEK, hEV]
  have HEK := hide hEK
  have HEV := hide hEV
  clear hEK hEV hn hr hx0 hR
  have hmk : ∀ w : World, (Instr.makeSlice 22 (.int .i64 13) (.int .i64 13)).run Try.prog w = .ok (.slice (some ⟨w.heap.size, 0, none⟩) 13 13) (w.alloc (.cells #[.int .i64 0, .int .i64 0, .int .i64 0, .int .i64 0, .int .i64 0, .int .i64 0, .int .i64 0, .int .i64 0, .int .i64 0, .int .i64 0, .int .i64 0, .int .i64 0, .int .i64 0] 2)) := fun _ => by kernel_rfl
  have hblk : Blk (w.alloc (.cells #[.int .i64 0, .int .i64 0, .int .i64 0, .int .i64 0, .int .i64 0, .int .i64 0, .int .i64 0, .int .i64 0, .int .i64 0, .int .i64 0, .int .i64 0, .int .i64 0, .int .i64 0] 2)) w.heap.size 2 (nvs (cntN (xs.take 0))) := Blk.new w 2 #[.int .i64 0, .int .i64 0, .int .i64 0, .int .i64 0, .int .i64 0, .int .i64 0, .int .i64 0, .int .i64 0, .int .i64 0, .int .i64 0, .int .i64 0, .int .i64 0, .int .i64 0]
  have hbw := (Below.refl w.heap.size w).alloc (Nat.le_refl _) (.cells #[.int .i64 0, .int .i64 0, .int .i64 0, .int .i64 0, .int .i64 0, .int .i64 0, .int .i64 0, .int .i64 0, .int .i64 0, .int .i64 0, .int .i64 0, .int .i64 0, .int .i64 0] 2)
  have HBK := hide hblk
  have HBW := hide hbw
  have H13 := hide h13
  have H4 := hide h4
  have H4M := hide h4m
  have H5 := hide h5
  have HOL := hide hol
  clear hblk hbw h13 h4 h4m h5 hol
  go_enter Try.func55, Try.ntmps55
  go_wp2
  go_loopw [6, 24] (fun one i wr => ∃ (k : Nat) (sb : Bool), k ≤ 5 ∧ i = .int .i64 k ∧ one = .bool sb ∧ Hid (suitT xs k = sb) ∧ Blk wr w.heap.size 2 (nvs (cntN (xs.take k))) ∧ Below w.heap.size w wr) (fun _ i _ => 5 - (intOf i).toNat)
  case atStart => exact ⟨0, true, by omega, rfl, rfl, rfl, HBK.out, HBW.out⟩
  case round =>
    obtain ⟨k, sb, hk, rfl, rfl, hsb, hbk, hbw⟩ := hrel
    by_cases hlt : k < 5
    · obtain ⟨x, hx, hx52⟩ := HRR.out k hlt
      obtain ⟨b', o', e, hbB', hc⟩ := (hRR.below hbw).at_ hlt
      obtain ⟨rfl, rfl⟩ : b = b' ∧ o = o' := by simpa using e
      rw [hx] at hc
      have hss := suitT_step HL.out hlt
      rw [hx, HX0.out] at hss
      have hcs := cnt_step HL.out hlt hx
      have hle := cnt_le xs k (x % 13)
      have h13 : x % 13 < 13 := Nat.mod_lt _ (by decide)
      have hc2 := hbk.cell (x % 13)
      rw [nvs_at _ _ (by rw [cntN_len]; exact h13)] at hc2
      have hf2 := hbk.frozen (x % 13)
      have hst := hbk.put (x % 13) (.int .i64 (((cntN (xs.take k)).getD (x % 13) 0 : Nat) + 1))
      rw [nvs_set _ _ ((cntN (xs.take k)).getD (x % 13) 0 + 1) _ (by go_num), ← hcs] at hst
      obtain ⟨v, hv⟩ := ex_eq ((cntN (xs.take k)).getD (x % 13) 0)
      rw [hv] at hc2 hle hst
      have HST := hide hst
      have HB := hide (hbw.setCell (p := ⟨w.heap.size, x % 13, none⟩) (by simp) (.int .i64 ((v : Int) + 1)))
      have hne : b ≠ w.heap.size := by omega
      have hcw : (wr.setCell ⟨w.heap.size, x % 13, none⟩ (.int .i64 ((v : Int) + 1))).cell? ⟨b, o + k, none⟩ = some (.int .i64 (x : Int)) := by
        rw [World.cell?_setCell_other _ _ _ _ (by intro e; injection e with e; exact hne e.symm)]; exact hc
      rw [hsb.out] at hss
      cases sb
      all_goals
        have HSS := hide hss
        clear hv hcs hst hbk hbw hx hsb hss e
        go_wp2
        go_roundw
        case rel => exact ⟨k + 1, _, by omega, by go_num, rfl, HSS, HST.out, HB.out⟩
        case measure => simp [intOf]; omega
    · have hk5 : k = 5 := by omega
      have hfl : suitT xs k = suitB xs := by rw [hk5]; exact suitT_all HL.out
      rw [hk5] at hbk
      rw [List.take_of_length_le (by rw [HL.out]; exact Nat.le_refl _)] at hbk
      obtain ⟨cs, hcs⟩ := ex_eq (cntN xs)
      obtain ⟨S, hS⟩ := ex_eq (suitB xs)
      have H13' := H13.out
      have H4M' := H4M.out
      have H5' := H5.out
      have hol := HOL.out
      rw [hcs] at H13' H4M' H5' hbk hol
      have HKK := hide (show EK = ((kindS S cs : Nat) : Int) by rw [← HEK.out, ← hS, ← hcs]; rfl)
      have HVV := hide (show EV = if 0 ≤ rowV cs then EK * 371293 + rowV cs * 28561 else foldV EK (ordN cs) by rw [← HEV.out, ← hcs, ← HEK.out]; rfl)
      obtain rfl : sb = S := by rw [← hS, ← hfl]; exact hsb.out.symm
      have hml := man_le cs H13' H4M' H5'
      have hm2 := many_two cs H13' H4M' H5'
      have H13 := hide H13'
      have HL5 := hide (show (ordN cs).length = 5 by rw [hol, HL.out])
      have HML := hide hml
      have HM2 := hide hm2
      have hgl := hbk.lt
      have HB1 := hide (hbk.alloc (.cells #[] 2) |>.alloc (.cells #[] 2))
      have HO1 := hide ((Lst.new wr (B := w.heap.size + 1) hgl).alloc (.cells #[] 2))
      have HM1 := hide (Lst.new' (wr.alloc (.cells #[] 2)) (B := w.heap.size + 1) (by simp; omega) (g := wr.heap.size + 1) (by simp))
      have HW1 := hide ((hbw.alloc (Nat.le_of_lt hgl) (.cells #[] 2)).alloc (by simp; omega) (.cells #[] 2))
      have H4R := hide (show ∀ r, cs.getD r 0 ≤ 1000 from fun r => by have := H4.out r; rw [hcs] at this; omega)
      have d1 : decide ((k : Int) < 5) = false := decide_eq_false (by omega)
      clear hcs hS hol hml hm2 H13' H4M' H5' H4M H5 H4 HOL hfl hsb hbk hRR HBK HBW hk5
      go_wp2
      go_loopw [8, 9, 10] (fun v8 v9 i wr => ∃ (n : Nat) (O M : List Nat), n ≤ 4 ∧ i = .int .i64 n ∧ Lst wr (w.heap.size + 1) v8 (castL O) ∧ Lst wr (w.heap.size + 1) v9 (castL M) ∧ Sep v8 v9 ∧ Hid (O ++ ordS cs n = ordN cs) ∧ Hid (M ++ manS cs n = manN cs) ∧ Blk wr w.heap.size 2 (nvs cs) ∧ Below w.heap.size w wr) (fun _ _ i _ => (intOf i).toNat)
      case atStart => exact ⟨4, [], [], by omega, rfl, HO1.out, HM1.out, .inr (by simp [Value.ownBlock]), rfl, rfl, HB1.out, HW1.out⟩
      case round =>
        obtain ⟨n, O, M, hn4, rfl, hO, hM, hsep, hOr, hMr, hbk, hbw⟩ := hrel
        obtain ⟨wo, rfl⟩ : ∃ wo : World, wo = wr := ⟨_, rfl⟩
        by_cases hn1 : 1 ≤ n
        · have hO0 := hOr.out
          have hM0 := hMr.out
          rw [ordS_pos cs n hn1] at hO0
          rw [manS_pos cs n hn1] at hM0
          have HO0 := hide hO0
          have HM0 := hide hM0
          clear hO0 hM0 hOr hMr
          have d2 : decide ((1 : Int) ≤ (n : Int)) = true := decide_eq_true (by omega)
          go_wp2
          go_loopw [8, 9, 11] (fun v8 v9 i wr => ∃ (R : Nat) (r : Int) (O M : List Nat), R ≤ 13 ∧ r = (R : Int) - 1 ∧ i = .int .i64 r ∧ Lst wr (w.heap.size + 1) v8 (castL O) ∧ Lst wr (w.heap.size + 1) v9 (castL M) ∧ Sep v8 v9 ∧ Hid (O ++ (ordR cs n R ++ ordS cs (n - 1)) = ordN cs) ∧ Hid (M ++ (manR cs n R ++ manS cs (n - 1)) = manN cs) ∧ Blk wr w.heap.size 2 (nvs cs) ∧ Below w.heap.size w wr) (fun _ _ i _ => (intOf i + 1).toNat)
          case atStart => exact ⟨13, 12, O, M, by omega, by omega, rfl, hO, hM, hsep, HO0, HM0, hbk, hbw⟩
          case round =>
            clear hO hM hsep hbk hbw HO0 HM0
            obtain ⟨R, r, O, M, hR13, hr, rfl, hO, hM, hsep, hOr, hMr, hbk, hbw⟩ := hrel
            obtain ⟨wi, rfl⟩ : ∃ wi : World, wi = wr := ⟨_, rfl⟩
            by_cases hR0 : R = 0
            · subst hR0
              obtain rfl : r = -1 := by omega
              clear hr
              go_wp2
              go_roundw
              case rel => exact ⟨n - 1, O, M, by omega, int_congr (by omega), hO, hM, hsep, hOr, hMr, hbk, hbw⟩
              case measure => simp [intOf]; omega
            · obtain ⟨p, rfl⟩ : ∃ p, R = p + 1 := ⟨R - 1, by omega⟩
              obtain rfl : r = (p : Int) := by omega
              have hc := hbk.cell p
              rw [nvs_at _ _ (by rw [H13.out]; omega)] at hc
              clear hr hR0
              have d3 : decide ((0 : Int) ≤ (p : Int)) = true := decide_eq_true (by omega)
              by_cases hv : cs.getD p 0 = n
              · have hOy := hOr.out
                have hMy := hMr.out
                rw [ordR_yes hv] at hOy
                rw [manR_yes hv] at hMy
                have hOl := len_of_app hOy
                have hMl := len_of_app hMy
                rw [HL5.out] at hOl
                have hMl2 := HML.out
                have HOY := hide (show O ++ (List.replicate (n - 0) p ++ (ordR cs n p ++ ordS cs (n - 1))) = ordN cs by rw [← hOy, Nat.sub_zero]; simp [List.append_assoc])
                have HMY := hide (show (M ++ [n]) ++ (manR cs n p ++ manS cs (n - 1)) = manN cs by rw [← hMy]; simp [List.append_assoc])
                rw [hv] at hc
                have hgi : w.heap.size + 1 ≤ wi.heap.size := hbk.lt
                clear hOy hMy hv hOr hMr
                go_wp2_with (at_builtin; refine wpList_app rfl (.tmp 64) (.tmp 66) rfl (w.heap.size + 1) _ (castL M) [(n : Int)] rfl (hM.alloc _) (some ⟨wi.heap.size, 0, none⟩) 1 1 rfl (rd_one wi (n : Int) 2) (fun h => by cases h) (by rw [castL_len]; omega) (by simp; omega) ?_; intro v4 w4 ho4 hg4 hbk4)
                have hO4 : Lst w4 (w.heap.size + 1) u8 (castL O) := Lst.kept (hO.alloc _) hg4 hsep
                have hM4 : Lst w4 (w.heap.size + 1) v4 (castL (M ++ [n])) := by rw [castL_app]; exact ho4
                have hsep4 : Sep u8 v4 := (Sep.app hsep.symm hbk4 (fun k hk => by have := (hO.blk k hk).2; simp; omega)).symm
                have hbk4' := (hbk.alloc (.cells #[.int .i64 (n : Int)] 2)).grown hg4 (fun e => by have := (hM.blk _ e.symm).1; omega)
                have hbw4 := (hbw.alloc (by omega) (.cells #[.int .i64 (n : Int)] 2)).grown hg4 (by simp; omega) (fun k hk => by have := (hM.blk k hk).1; omega)
                clear ho4 hg4 hbk4 hO hM hsep hbk hbw
                go_loopw [8, 12] (fun v8 kk wr => ∃ (k : Nat) (O : List Nat), k ≤ n ∧ kk = .int .i64 k ∧ Lst wr (w.heap.size + 1) v8 (castL O) ∧ Lst wr (w.heap.size + 1) v4 (castL (M ++ [n])) ∧ Sep v8 v4 ∧ Hid (O ++ (List.replicate (n - k) p ++ (ordR cs n p ++ ordS cs (n - 1))) = ordN cs) ∧ Blk wr w.heap.size 2 (nvs cs) ∧ Below w.heap.size w wr) (fun _ kk _ => n - (intOf kk).toNat)
                case atStart => exact ⟨0, O, by omega, rfl, hO4, hM4, hsep4, HOY, hbk4', hbw4⟩
                case round =>
                  clear hO4 hM4 hsep4 HOY hbk4' hbw4
                  obtain ⟨kk, O, hkk, rfl, hO, hM, hsep, hOr, hbk, hbw⟩ := hrel
                  by_cases hkn : kk < n
                  · have hOl := len_of_app hOr.out
                    rw [HL5.out] at hOl
                    have HOY := hide (show (O ++ [p]) ++ (List.replicate (n - (kk + 1)) p ++ (ordR cs n p ++ ordS cs (n - 1))) = ordN cs by
                      rw [← hOr.out, show n - kk = (n - (kk + 1)) + 1 by omega, List.replicate_succ]; simp [List.append_assoc])
                    have hgi : w.heap.size + 1 ≤ wr.heap.size := hbk.lt
                    clear hOr
                    go_wp2_with (at_builtin; refine wpList_app rfl (.tmp 73) (.tmp 75) rfl (w.heap.size + 1) _ (castL O) [(p : Int)] rfl (hO.alloc _) (some ⟨wr.heap.size, 0, none⟩) 1 1 rfl (rd_one wr (p : Int) 2) (fun h => by cases h) (by rw [castL_len]; omega) (by simp; omega) ?_; intro v5 w5 ho5 hg5 hbk5)
                    have hM5 : Lst w5 (w.heap.size + 1) v4 (castL (M ++ [n])) := Lst.kept (hM.alloc _) hg5 hsep.symm
                    have hO5 : Lst w5 (w.heap.size + 1) v5 (castL (O ++ [p])) := by rw [castL_app]; exact ho5
                    have hsep5 : Sep v5 v4 := Sep.app hsep hbk5 (fun k hk => by have := (hM.blk k hk).2; simp; omega)
                    have hbk5' := (hbk.alloc (.cells #[.int .i64 (p : Int)] 2)).grown hg5 (fun e => by have := (hO.blk _ e.symm).1; omega)
                    have hbw5 := (hbw.alloc (by omega) (.cells #[.int .i64 (p : Int)] 2)).grown hg5 (by simp; omega) (fun k hk => by have := (hO.blk k hk).1; omega)
                    clear ho5 hg5 hbk5 hO hM hsep hbk hbw
                    go_roundw
                    case rel => exact ⟨kk + 1, O ++ [p], by omega, by go_num, hO5, hM5, hsep5, HOY, hbk5', hbw5⟩
                    case measure => simp [intOf]; omega
                  · obtain rfl : kk = n := by omega
                    have HOZ := hide (show O ++ (ordR cs kk p ++ ordS cs (kk - 1)) = ordN cs by rw [← hOr.out, Nat.sub_self]; rfl)
                    clear hOr
                    go_wp2
                    go_roundw
                    case rel => exact ⟨p, (p : Int) - 1, O, M ++ [kk], by omega, rfl, rfl, hO, hM, hsep, HOZ, HMY, hbk, hbw⟩
                    case measure => simp [intOf] <;> omega
              · have hOn := hOr.out
                have hMn := hMr.out
                rw [ordR_no hv] at hOn
                rw [manR_no hv] at hMn
                have HON := hide hOn
                have HMN := hide hMn
                obtain ⟨v, hv2⟩ := ex_eq (cs.getD p 0)
                rw [hv2] at hc hv
                have hb1 : (v != n) = true := by simpa using hv
                clear hOn hMn hv2 hv hOr hMr
                go_wp2
                go_roundw
                case rel => exact ⟨p, (p : Int) - 1, O, M, by omega, rfl, rfl, hO, hM, hsep, HON, HMN, hbk, hbw⟩
                case measure => simp [intOf] <;> omega
        · obtain rfl : n = 0 := by omega
          have hOe : O = ordN cs := by have := hOr.out; simpa [ordS] using this
          have hMe : M = manN cs := by have := hMr.out; simpa [manS] using this
          subst hOe hMe
          obtain ⟨R, hR⟩ := ex_eq (rowV cs)
          have hrr := rowV_range cs
          have HRW := hide (l03Row_any (some ⟨w.heap.size, 0, none⟩) 13 cs wo.heap.size wo (blk_rd hbk H13.out) H4R.out)
          rw [hR] at HRW hrr
          have HVV2 := HVV.out
          rw [hR] at HVV2
          have HK2 := hide (show EK = ((kindS sb cs : Nat) : Int) from HKK.out)
          obtain ⟨L9, hL9⟩ := ex_eq (manN cs).length
          have hm2 := HM2.out
          rw [hL9] at hm2
          obtain ⟨A9, c9, rfl, hM9⟩ := hM.formn (n := L9) (by rw [castL_len, hL9])
          obtain ⟨A8, c8, rfl, hO8⟩ := hO.formn (n := 5) (by rw [castL_len, HL5.out])
          obtain ⟨g9, rfl, hg9, hg9'⟩ := hM9.form (by omega)
          obtain ⟨g8, rfl, hg8, hg8'⟩ := hO8.form (by omega)
          have c90 := World.ownsRow.cellAt (h := hM9) 0 (by omega)
          rw [ivs_at _ _ (by rw [castL_len]; omega), castL_at] at c90
          have c91 := World.ownsRow.cellAt (h := hM9) 1 (by omega)
          rw [ivs_at _ _ (by rw [castL_len]; omega), castL_at] at c91
          obtain ⟨m0, hm0⟩ := ex_eq ((manN cs).getD 0 0)
          obtain ⟨m1, hm1⟩ := ex_eq ((manN cs).getD 1 0)
          have hKd : EK = (((if sb = true ∧ 0 ≤ R then 8 else if m0 = 4 then 7 else if m0 = 3 ∧ m1 = 2 then 6 else if sb = true then 5
            else if 0 ≤ R then 4 else if m0 = 3 then 3 else if m0 = 2 ∧ m1 = 2 then 2 else if m0 = 2 then 1 else 0) : Nat) : Int) := by
            rw [HKK.out, ← hR, ← hm0, ← hm1]; rfl
          rw [hm0] at c90
          rw [hm1] at c91
          have HKD := hide hKd
          have HVV3 := hide HVV2
          have HO8 := hide hO8
          have HBW' := hide hbw
          have HOR := hide (ordN_lt cs)
          have hEK8 : 0 ≤ EK ∧ EK ≤ 8 := by rw [← HEK.out]; exact kindL_range xs
          have d4 : decide ((1 : Int) ≤ ((0 : Nat) : Int)) = false := by decide
          clear hKd HVV2 hO8 hbw hM9 hM hO hm0 hm1 hL9 hsep hOr hMr HKK HK2 hR hbk HRR
          go_upto_block 8 with (go_at_call 87; refine (HRW.out).mono ?_; rintro e wq ⟨rfl, q, rfl⟩)
          go_cut [14] (fun s14 wx => s14 = .int .i64 EK ∧ wx = wo.drewN q)
          case first =>
            have c90q : (wo.drewN q).cell? ⟨g9, 0, none⟩ = some (.int .i64 (m0 : Int)) := c90
            have c91q : (wo.drewN q).cell? ⟨g9, 1, none⟩ = some (.int .i64 (m1 : Int)) := c91
            cases sb
            · by_cases hR0 : 0 ≤ R
              · skip
                by_cases e4 : m0 = 4
                · skip
                  have HF := hide (show EK = 7 by rw [HKD.out]; simp [hR0, e4])
                  have b04 : ((m0 : Int) == 4) = true := by simp <;> omega
                  clear e4
                  go_wp2
                  go_meet
                  exact ⟨int_congr HF.out.symm, rfl⟩
                by_cases e3 : m0 = 3
                · skip
                  by_cases e12 : m1 = 2
                  · skip
                    have HF := hide (show EK = 6 by rw [HKD.out]; simp [hR0, e3, e12])
                    have b04 : ((m0 : Int) == 4) = false := by simp <;> omega
                    have b03 : ((m0 : Int) == 3) = true := by simp <;> omega
                    have b12 : ((m1 : Int) == 2) = true := by simp <;> omega
                    clear e3 e12
                    go_wp2
                    go_meet
                    exact ⟨int_congr HF.out.symm, rfl⟩
                  have HF := hide (show EK = 4 by rw [HKD.out]; simp [hR0, e3, e12])
                  have b04 : ((m0 : Int) == 4) = false := by simp <;> omega
                  have b03 : ((m0 : Int) == 3) = true := by simp <;> omega
                  have b12 : ((m1 : Int) == 2) = false := by simp <;> omega
                  clear e3 e12
                  go_wp2
                  go_meet
                  exact ⟨int_congr HF.out.symm, rfl⟩
                have HF := hide (show EK = 4 by rw [HKD.out]; simp [hR0, e4, e3])
                have b04 : ((m0 : Int) == 4) = false := by simp <;> omega
                have b03 : ((m0 : Int) == 3) = false := by simp <;> omega
                clear e4 e3
                go_wp2
                go_meet
                exact ⟨int_congr HF.out.symm, rfl⟩
              · skip
                by_cases e4 : m0 = 4
                · skip
                  have HF := hide (show EK = 7 by rw [HKD.out]; simp [hR0, e4])
                  have b04 : ((m0 : Int) == 4) = true := by simp <;> omega
                  clear e4
                  go_wp2
                  go_meet
                  exact ⟨int_congr HF.out.symm, rfl⟩
                by_cases e3 : m0 = 3
                · skip
                  by_cases e12 : m1 = 2
                  · skip
                    have HF := hide (show EK = 6 by rw [HKD.out]; simp [hR0, e3, e12])
                    have b04 : ((m0 : Int) == 4) = false := by simp <;> omega
                    have b03 : ((m0 : Int) == 3) = true := by simp <;> omega
                    have b12 : ((m1 : Int) == 2) = true := by simp <;> omega
                    clear e3 e12
                    go_wp2
                    go_meet
                    exact ⟨int_congr HF.out.symm, rfl⟩
                  have HF := hide (show EK = 3 by rw [HKD.out]; simp [hR0, e3, e12])
                  have b04 : ((m0 : Int) == 4) = false := by simp <;> omega
                  have b03 : ((m0 : Int) == 3) = true := by simp <;> omega
                  have b12 : ((m1 : Int) == 2) = false := by simp <;> omega
                  clear e3 e12
                  go_wp2
                  go_meet
                  exact ⟨int_congr HF.out.symm, rfl⟩
                by_cases e2 : m0 = 2
                · skip
                  by_cases e12 : m1 = 2
                  · skip
                    have HF := hide (show EK = 2 by rw [HKD.out]; simp [hR0, e2, e12])
                    have b04 : ((m0 : Int) == 4) = false := by simp <;> omega
                    have b03 : ((m0 : Int) == 3) = false := by simp <;> omega
                    have b02 : ((m0 : Int) == 2) = true := by simp <;> omega
                    have b12 : ((m1 : Int) == 2) = true := by simp <;> omega
                    clear e2 e12
                    go_wp2
                    go_meet
                    exact ⟨int_congr HF.out.symm, rfl⟩
                  have HF := hide (show EK = 1 by rw [HKD.out]; simp [hR0, e2, e12])
                  have b04 : ((m0 : Int) == 4) = false := by simp <;> omega
                  have b03 : ((m0 : Int) == 3) = false := by simp <;> omega
                  have b02 : ((m0 : Int) == 2) = true := by simp <;> omega
                  have b12 : ((m1 : Int) == 2) = false := by simp <;> omega
                  clear e2 e12
                  go_wp2
                  go_meet
                  exact ⟨int_congr HF.out.symm, rfl⟩
                have HF := hide (show EK = 0 by rw [HKD.out]; simp [hR0, e4, e3, e2])
                have b04 : ((m0 : Int) == 4) = false := by simp <;> omega
                have b03 : ((m0 : Int) == 3) = false := by simp <;> omega
                have b02 : ((m0 : Int) == 2) = false := by simp <;> omega
                clear e4 e3 e2
                go_wp2
                go_meet
                exact ⟨int_congr HF.out.symm, rfl⟩
            · by_cases hR0 : 0 ≤ R
              · skip
                have HF := hide (show EK = 8 by rw [HKD.out]; simp [hR0])
                go_wp2
                go_meet
                exact ⟨int_congr HF.out.symm, rfl⟩
              · skip
                by_cases e4 : m0 = 4
                · skip
                  have HF := hide (show EK = 7 by rw [HKD.out]; simp [hR0, e4])
                  have b04 : ((m0 : Int) == 4) = true := by simp <;> omega
                  clear e4
                  go_wp2
                  go_meet
                  exact ⟨int_congr HF.out.symm, rfl⟩
                by_cases e3 : m0 = 3
                · skip
                  by_cases e12 : m1 = 2
                  · skip
                    have HF := hide (show EK = 6 by rw [HKD.out]; simp [hR0, e3, e12])
                    have b04 : ((m0 : Int) == 4) = false := by simp <;> omega
                    have b03 : ((m0 : Int) == 3) = true := by simp <;> omega
                    have b12 : ((m1 : Int) == 2) = true := by simp <;> omega
                    clear e3 e12
                    go_wp2
                    go_meet
                    exact ⟨int_congr HF.out.symm, rfl⟩
                  have HF := hide (show EK = 5 by rw [HKD.out]; simp [hR0, e3, e12])
                  have b04 : ((m0 : Int) == 4) = false := by simp <;> omega
                  have b03 : ((m0 : Int) == 3) = true := by simp <;> omega
                  have b12 : ((m1 : Int) == 2) = false := by simp <;> omega
                  clear e3 e12
                  go_wp2
                  go_meet
                  exact ⟨int_congr HF.out.symm, rfl⟩
                have HF := hide (show EK = 5 by rw [HKD.out]; simp [hR0, e4, e3])
                have b04 : ((m0 : Int) == 4) = false := by simp <;> omega
                have b03 : ((m0 : Int) == 3) = false := by simp <;> omega
                clear e4 e3
                go_wp2
                go_meet
                exact ⟨int_congr HF.out.symm, rfl⟩
          case rest =>
            obtain ⟨rfl, rfl⟩ := hcut
            go_upto_if 128 with fail
            go_cut [8] (fun s8 wx => ∃ (gg c8 : Nat) (L : List Nat), s8 = .slice (some ⟨gg, 0, none⟩) 5 c8 ∧ Rd wx wx.heap.size (some ⟨gg, 0, none⟩) 5 (castL L) ∧ Hid (foldV EK L = EV ∧ ∀ r ∈ L, r < 13) ∧ Below w.heap.size w wx)
            case first =>
              by_cases hR0 : 0 ≤ R
              · obtain ⟨Rn, rfl⟩ := Int.eq_ofNat_of_zero_le hR0
                have hfo : foldV EK [Rn, 0, 0, 0, 0] = EV := by
                  rw [HVV3.out, if_pos hR0]
                  simp [foldV]
                  omega
                have hblk : Blk ((wo.drewN q).alloc (.cells #[.int .i64 (Rn : Int), .int .i64 0, .int .i64 0, .int .i64 0, .int .i64 0] 2)) wo.heap.size 2 (nvs [Rn, 0, 0, 0, 0]) := Blk.new (wo.drewN q) 2 #[.int .i64 (Rn : Int), .int .i64 0, .int .i64 0, .int .i64 0, .int .i64 0]
                have HRD := hide (blk_rd hblk (n := 5) rfl)
                have HFO := hide hfo
                have HBB := hide ((bdrewN HBW'.out q).alloc (Nat.le_trans (Nat.le_of_lt (Nat.lt_of_succ_le hg8)) (Nat.le_of_lt hg8')) (.cells #[.int .i64 (Rn : Int), .int .i64 0, .int .i64 0, .int .i64 0, .int .i64 0] 2))
                have hRn : Rn < 13 := by omega
                have HRN := hide hRn
                clear hfo hblk hRn
                go_wp2
                go_meet
                exact ⟨_, _, [Rn, 0, 0, 0, 0], rfl, HRD.out, hide ⟨HFO.out, by intro r hr; have := HRN.out; simp at hr; omega⟩, HBB.out⟩
              · have HFO := hide (show foldV EK (ordN cs) = EV by rw [HVV3.out, if_neg hR0])
                go_wp2
                go_meet
                exact ⟨g8, c8, ordN cs, rfl, HO8.out.rd.drewN q, hide ⟨HFO.out, HOR.out⟩, bdrewN HBW'.out q⟩
            case rest =>
              obtain ⟨gg, c8', L, rfl, hL, hfo, hbL⟩ := hcut
              have hL5 : L.length = 5 := by have := hL.len; rw [castL_len] at this; exact this
              have HLL := hide hL5
              have hv0 : foldV EK (L.take 0) = EK := rfl
              have HV0 := hide hv0
              clear hL5 hv0
              go_wp2
              go_loopw [15, 134] (fun vv i wr => ∃ (k q : Nat) (v : Int), k ≤ 5 ∧ i = .int .i64 k ∧ vv = .int .i64 v ∧ Hid (foldV EK (L.take k) = v) ∧ Hid (wr = wc.drewN q)) (fun _ i _ => 5 - (intOf i).toNat)
              case atStart => exact ⟨0, 0, EK, by omega, rfl, rfl, HV0, rfl⟩
              case round =>
                obtain ⟨kk, q, v, hkk, rfl, rfl, hv, hw⟩ := hrel
                by_cases hlt5 : kk < 5
                · have hkL : kk < L.length := by rw [HLL.out]; exact hlt5
                  have hbd := foldV_bound (L.take kk) EK hEK8.1 8 hEK8.2 (fun r hr => hfo.out.2 r (List.mem_of_mem_take hr))
                  rw [hv.out, List.length_take, Nat.min_eq_left (Nat.le_of_lt hkL)] at hbd
                  have hpow : (13 : Int) ^ kk ≤ 28561 := by
                    obtain rfl | rfl | rfl | rfl | rfl : kk = 0 ∨ kk = 1 ∨ kk = 2 ∨ kk = 3 ∨ kk = 4 := by omega
                    all_goals decide
                  have hr13 := hfo.out.2 L[kk] (List.getElem_mem hkL)
                  have he : L.getD kk 0 = L[kk] := by simp [List.getD, hkL]
                  have hnx : foldV EK (L.take (kk + 1)) = 13 * v + (L.getD kk 0 : Nat) := by
                    rw [List.take_succ_eq_append_getElem hkL, he]
                    have : ∀ (l : List Nat) (x : Nat) (u : Int), foldV u (l ++ [x]) = 13 * foldV u l + x := fun l x u => by simp [foldV, List.foldl_append]
                    rw [this, hv.out]
                  obtain ⟨b', o', e, hbb, hc⟩ := (hL.drewN q).at_ hlt5
                  obtain ⟨rfl, rfl⟩ : gg = b' ∧ 0 = o' := by simpa using e
                  rw [castL_at, Nat.zero_add] at hc
                  rw [← he] at hr13
                  obtain ⟨x, hx⟩ := ex_eq (L.getD kk 0)
                  rw [hx] at hc hr13 hnx
                  have hcw : wr.cell? ⟨gg, kk, none⟩ = some (.int .i64 (x : Int)) := by rw [hw.out]; exact hc
                  have hb1 : 0 ≤ v ∧ v ≤ 300000 := by omega
                  have HNX := hide hnx
                  clear hbd hpow he hnx e hbb hc hx hv hkL
                  go_wp2
                  go_roundw
                  case rel => exact ⟨kk + 1, q, 13 * v + x, by omega, by go_num, rfl, HNX, hw⟩
                  case measure => simp [intOf]; omega
                · have hk5' : kk = 5 := by omega
                  have HFE := hide (show v = EV by
                    have h := hv.out
                    rw [hk5', List.take_of_length_le (by rw [HLL.out]; exact Nat.le_refl _), hfo.out.1] at h
                    exact h.symm)
                  have HBE := hide (show Below w.heap.size w wr by rw [hw.out]; exact bdrewN hbL q)
                  clear hk5' hv
                  go_wp2
                  go_ret2
                  exact ⟨by rw [HFE.out]; rfl, HBE.out⟩

theorem spec_KindOf (A : Option Addr) (n c : Nat) (xs : List Int) (w : World) (hR : Rd w w.heap.size A n xs) (hn : n ≤ 1048576) (hnc : n ≤ c) :
    Calls Try.prog 20 #[.slice A n c] w fun e w' => e = .returned (.tuple #[.int .i64 (if handB xs 5 5 = true then kindL xs else 0), .bool (handB xs 5 5)]) ∧ Below w.heap.size w w' := by
  have H := hide (l03Five_any A n c xs w.heap.size w hR hn hnc)
  cases hh : handB xs 5 5
  · rw [hh] at H
    clear hR
    go_enter Try.func20, Try.ntmps20
    go_wp2_with fail
    refine H.out.mono ?_
    rintro e w' ⟨rfl, q, rfl⟩
    go_wp2
    go_ret2
    exact ⟨rfl, bdrewN (Below.refl _ _) _⟩
  · obtain rfl : n = 5 := by have := hand_len hh; rw [hR.len] at this; omega
    obtain ⟨hnd, hrg⟩ := cards_nodup (hand_cards hh)
    have HLK := hide (fun q => l03Look_any A c xs w.heap.size (w.drewN q) (hR.drewN q) (Nat.le_refl _) hnd hrg)
    rw [hh] at H
    rw [if_pos rfl]
    generalize kindL xs = K at *
    generalize valL xs = V at *
    clear hR hnd hrg hh
    go_enter Try.func20, Try.ntmps20
    go_wp2_with (first | (go_at_call 54; refine H.out.mono ?_; rintro e w' ⟨rfl, q, rfl⟩) | (go_at_call 55; refine (HLK.out _).mono ?_; rintro e w2 ⟨rfl, hb2⟩))
    go_ret2
    exact ⟨rfl, (bdrewN (Below.refl _ _) _).trans hb2⟩

theorem spec_ValueOf (A : Option Addr) (n c : Nat) (xs : List Int) (w : World) (hR : Rd w w.heap.size A n xs) (hn : n ≤ 1048576) (hnc : n ≤ c) :
    Calls Try.prog 22 #[.slice A n c] w fun e w' => e = .returned (.tuple #[.int .i64 (if handB xs 5 5 = true then valL xs else 0), .bool (handB xs 5 5)]) ∧ Below w.heap.size w w' := by
  have H := hide (l03Five_any A n c xs w.heap.size w hR hn hnc)
  cases hh : handB xs 5 5
  · rw [hh] at H
    clear hR
    go_enter Try.func22, Try.ntmps22
    go_wp2_with fail
    refine H.out.mono ?_
    rintro e w' ⟨rfl, q, rfl⟩
    go_wp2
    go_ret2
    exact ⟨rfl, bdrewN (Below.refl _ _) _⟩
  · obtain rfl : n = 5 := by have := hand_len hh; rw [hR.len] at this; omega
    obtain ⟨hnd, hrg⟩ := cards_nodup (hand_cards hh)
    have HLK := hide (fun q => l03Look_any A c xs w.heap.size (w.drewN q) (hR.drewN q) (Nat.le_refl _) hnd hrg)
    rw [hh] at H
    rw [if_pos rfl]
    generalize kindL xs = K at *
    generalize valL xs = V at *
    clear hR hnd hrg hh
    go_enter Try.func22, Try.ntmps22
    go_wp2_with (first | (go_at_call 54; refine H.out.mono ?_; rintro e w' ⟨rfl, q, rfl⟩) | (go_at_call 55; refine (HLK.out _).mono ?_; rintro e w2 ⟨rfl, hb2⟩))
    go_ret2
    exact ⟨rfl, (bdrewN (Below.refl _ _) _).trans hb2⟩

end Go.Proofs.Ytlldocdmjeeaaaa.hand
