/-
  The best five of five to seven cards, in the reference: five loops in one another. Conditions: those of each theorem.
-/
import Derived.Test.YtlldocdmjeeaaaaVal
import Derived.Test.YtlldocdmjeeaaaaBestP
import Derived.StillTailTactics
namespace Go.Proofs.Ytlldocdmjeeaaaa.hand
open Go.RowKit
open base mem

theorem upd_yes {st : List Int × Int} {five : List Int} (h : st.2 < valL five) : upd st five = (five, valL five) := if_pos h
theorem upd_no {st : List Int × Int} {five : List Int} (h : ¬ st.2 < valL five) : upd st five = st := if_neg h
set_option maxRecDepth 100000 in
set_option maxHeartbeats 8000000 in
theorem l03Best_any (A : Option Addr) (n c : Nat) (xs : List Int) (B : Nat) (w : World) (hR : Rd w B A n xs) (hB : B ≤ w.heap.size) (hn5 : 5 ≤ n) (hn : n ≤ 1000) (hf : Fine xs) :
    Calls Try.prog 59 #[.slice A n c] w fun e w' => ∃ v, e = .returned (.tuple #[v, .int .i64 (bestL xs).2]) ∧ Lst w' w.heap.size v (bestL xs).1 ∧ Below w.heap.size w w' := by
  have HL := hide hR.len
  obtain ⟨b, o, rfl, hbB, hc0⟩ := hR.2 (by omega)
  have HC := hide (fun (k : Nat) (w' : World) (hb : Below w.heap.size w w') (hk : k < n) => (hb.cell (p := ⟨b, o + k, none⟩) (Nat.lt_of_lt_of_le hbB hB)).trans (hc0 k hk))
  obtain ⟨FIN, hFIN⟩ := ex_eq (bestL xs)
  rw [hFIN]
  have HF0 : Hid (pk 5 [] (xs.drop 0) ([], -1) = FIN) := hFIN
  have HFI0 : Hid (Fine ([] ++ xs.drop 0)) := hf
  have HOK0 : Hid (Okst ([], -1)) := .inl ⟨rfl, rfl⟩
  have HL0 := hide (Lst.new w (Nat.le_refl _))
  have HB0 := hide ((Below.refl w.heap.size w).alloc (Nat.le_refl _) (.cells #[] 2))
  clear hFIN hf hR hc0
  go_enter Try.func59, Try.ntmps59
  go_wp2
  go_loopw [5, 6, 7] (fun v m s wr => ∃ (i : Nat) (st : List Int × Int), i ≤ n ∧ s = .int .i64 i ∧ m = .int .i64 st.2 ∧ Lst wr w.heap.size v st.1 ∧ Below w.heap.size w wr ∧ Hid (Okst st) ∧ Hid (pk 5 [] (xs.drop i) st = FIN) ∧ Hid (Fine ([] ++ xs.drop i))) (fun _ _ s _ => n - (intOf s).toNat)
  case atStart => exact ⟨0, ([], -1), Nat.zero_le _, rfl, rfl, HL0.out, HB0.out, HOK0, HF0, HFI0⟩
  case round =>
    obtain ⟨i1, st, hi1, rfl, rfl, hL, hb, hok, hF, hfi⟩ := hrel
    obtain ⟨wo1, rfl⟩ : ∃ wo : World, wo = wr := ⟨_, rfl⟩
    by_cases hlt1 : i1 < n
    · have hkx : i1 < xs.length := by rw [HL.out]; exact hlt1
      have hFx := hF.out
      rw [pk_drop _ _ _ _ _ hkx] at hFx
      have HPK := hide (Fine.pick hfi.out hkx)
      have HSK1 := hide (Fine.skip hfi.out)
      obtain ⟨K2, hK2⟩ : ∃ K : List Int × Int → List Int × Int, ∀ st, K st = (pk 5 [] (xs.drop (i1 + 1)) st) := ⟨_, fun _ => rfl⟩
      have HK2 := hide hK2
      have HFN := hide (show K2 (pk 4 [xs.getD i1 0] (xs.drop (i1 + 1)) st) = FIN by rw [hK2]; exact hFx)
      have d1 : decide ((i1 : Int) < (n : Int)) = true := decide_eq_true (by omega)
      clear hFx hK2 hkx hF hfi
      go_wp2
      go_loopw [5, 6, 8] (fun v m s wr => ∃ (i : Nat) (st : List Int × Int), i ≤ n ∧ i1 < i ∧ s = .int .i64 i ∧ m = .int .i64 st.2 ∧ Lst wr w.heap.size v st.1 ∧ Below w.heap.size w wr ∧ Hid (Okst st) ∧ Hid (K2 (pk 4 [xs.getD i1 0] (xs.drop i) st) = FIN) ∧ Hid (Fine ([xs.getD i1 0] ++ xs.drop i))) (fun _ _ s _ => n - (intOf s).toNat)
      case atStart => exact ⟨i1 + 1, st, by omega, by omega, int_congr (by omega), rfl, hL, hb, hok, HFN, HPK⟩
      case round =>
        clear hL hb hok HFN HPK
        obtain ⟨i2, st, hi2, hlo2, rfl, rfl, hL, hb, hok, hF, hfi⟩ := hrel
        obtain ⟨wo2, rfl⟩ : ∃ wo : World, wo = wr := ⟨_, rfl⟩
        by_cases hlt2 : i2 < n
        · have hkx : i2 < xs.length := by rw [HL.out]; exact hlt2
          have hFx := hF.out
          rw [pk_drop _ _ _ _ _ hkx] at hFx
          have HPK := hide (Fine.pick hfi.out hkx)
          have HSK2 := hide (Fine.skip hfi.out)
          obtain ⟨K3, hK3⟩ : ∃ K : List Int × Int → List Int × Int, ∀ st, K st = K2 (pk 4 [xs.getD i1 0] (xs.drop (i2 + 1)) st) := ⟨_, fun _ => rfl⟩
          have HK3 := hide hK3
          have HFN := hide (show K3 (pk 3 [xs.getD i1 0, xs.getD i2 0] (xs.drop (i2 + 1)) st) = FIN by rw [hK3]; exact hFx)
          have d2 : decide ((i2 : Int) < (n : Int)) = true := decide_eq_true (by omega)
          clear hFx hK3 hkx hF hfi
          go_wp2
          go_loopw [5, 6, 9] (fun v m s wr => ∃ (i : Nat) (st : List Int × Int), i ≤ n ∧ i2 < i ∧ s = .int .i64 i ∧ m = .int .i64 st.2 ∧ Lst wr w.heap.size v st.1 ∧ Below w.heap.size w wr ∧ Hid (Okst st) ∧ Hid (K3 (pk 3 [xs.getD i1 0, xs.getD i2 0] (xs.drop i) st) = FIN) ∧ Hid (Fine ([xs.getD i1 0, xs.getD i2 0] ++ xs.drop i))) (fun _ _ s _ => n - (intOf s).toNat)
          case atStart => exact ⟨i2 + 1, st, by omega, by omega, int_congr (by omega), rfl, hL, hb, hok, HFN, HPK⟩
          case round =>
            clear hL hb hok HFN HPK
            obtain ⟨i3, st, hi3, hlo3, rfl, rfl, hL, hb, hok, hF, hfi⟩ := hrel
            obtain ⟨wo3, rfl⟩ : ∃ wo : World, wo = wr := ⟨_, rfl⟩
            by_cases hlt3 : i3 < n
            · have hkx : i3 < xs.length := by rw [HL.out]; exact hlt3
              have hFx := hF.out
              rw [pk_drop _ _ _ _ _ hkx] at hFx
              have HPK := hide (Fine.pick hfi.out hkx)
              have HSK3 := hide (Fine.skip hfi.out)
              obtain ⟨K4, hK4⟩ : ∃ K : List Int × Int → List Int × Int, ∀ st, K st = K3 (pk 3 [xs.getD i1 0, xs.getD i2 0] (xs.drop (i3 + 1)) st) := ⟨_, fun _ => rfl⟩
              have HK4 := hide hK4
              have HFN := hide (show K4 (pk 2 [xs.getD i1 0, xs.getD i2 0, xs.getD i3 0] (xs.drop (i3 + 1)) st) = FIN by rw [hK4]; exact hFx)
              have d3 : decide ((i3 : Int) < (n : Int)) = true := decide_eq_true (by omega)
              clear hFx hK4 hkx hF hfi
              go_wp2
              go_loopw [5, 6, 10] (fun v m s wr => ∃ (i : Nat) (st : List Int × Int), i ≤ n ∧ i3 < i ∧ s = .int .i64 i ∧ m = .int .i64 st.2 ∧ Lst wr w.heap.size v st.1 ∧ Below w.heap.size w wr ∧ Hid (Okst st) ∧ Hid (K4 (pk 2 [xs.getD i1 0, xs.getD i2 0, xs.getD i3 0] (xs.drop i) st) = FIN) ∧ Hid (Fine ([xs.getD i1 0, xs.getD i2 0, xs.getD i3 0] ++ xs.drop i))) (fun _ _ s _ => n - (intOf s).toNat)
              case atStart => exact ⟨i3 + 1, st, by omega, by omega, int_congr (by omega), rfl, hL, hb, hok, HFN, HPK⟩
              case round =>
                clear hL hb hok HFN HPK
                obtain ⟨i4, st, hi4, hlo4, rfl, rfl, hL, hb, hok, hF, hfi⟩ := hrel
                obtain ⟨wo4, rfl⟩ : ∃ wo : World, wo = wr := ⟨_, rfl⟩
                by_cases hlt4 : i4 < n
                · have hkx : i4 < xs.length := by rw [HL.out]; exact hlt4
                  have hFx := hF.out
                  rw [pk_drop _ _ _ _ _ hkx] at hFx
                  have HPK := hide (Fine.pick hfi.out hkx)
                  have HSK4 := hide (Fine.skip hfi.out)
                  obtain ⟨K5, hK5⟩ : ∃ K : List Int × Int → List Int × Int, ∀ st, K st = K4 (pk 2 [xs.getD i1 0, xs.getD i2 0, xs.getD i3 0] (xs.drop (i4 + 1)) st) := ⟨_, fun _ => rfl⟩
                  have HK5 := hide hK5
                  have HFN := hide (show K5 (pk 1 [xs.getD i1 0, xs.getD i2 0, xs.getD i3 0, xs.getD i4 0] (xs.drop (i4 + 1)) st) = FIN by rw [hK5]; exact hFx)
                  have d4 : decide ((i4 : Int) < (n : Int)) = true := decide_eq_true (by omega)
                  clear hFx hK5 hkx hF hfi
                  go_wp2
                  go_loopw [5, 6, 11] (fun v m s wr => ∃ (i : Nat) (st : List Int × Int), i ≤ n ∧ i4 < i ∧ s = .int .i64 i ∧ m = .int .i64 st.2 ∧ Lst wr w.heap.size v st.1 ∧ Below w.heap.size w wr ∧ Hid (Okst st) ∧ Hid (K5 (pk 1 [xs.getD i1 0, xs.getD i2 0, xs.getD i3 0, xs.getD i4 0] (xs.drop i) st) = FIN) ∧ Hid (Fine ([xs.getD i1 0, xs.getD i2 0, xs.getD i3 0, xs.getD i4 0] ++ xs.drop i))) (fun _ _ s _ => n - (intOf s).toNat)
                  case atStart => exact ⟨i4 + 1, st, by omega, by omega, int_congr (by omega), rfl, hL, hb, hok, HFN, HPK⟩
                  case round =>
                    clear hL hb hok HFN HPK
                    obtain ⟨i5, st, hi5, hlo5, rfl, rfl, hL, hb, hok, hF, hfi⟩ := hrel
                    obtain ⟨wo5, rfl⟩ : ∃ wo : World, wo = wr := ⟨_, rfl⟩
                    by_cases hlt5 : i5 < n
                    · have hkx : i5 < xs.length := by rw [HL.out]; exact hlt5
                      have hFx := hF.out
                      rw [pk_drop _ _ _ _ _ hkx] at hFx
                      have HPK := hide (Fine.pick hfi.out hkx)
                      have HSK5 := hide (Fine.skip hfi.out)
                      rw [pk_zero] at hFx
                      have hff : Fine [xs.getD i1 0, xs.getD i2 0, xs.getD i3 0, xs.getD i4 0, xs.getD i5 0] := Fine.left HPK.out
                      have c1 := HC.out i1 wo5 hb (by omega)
                      have c2 := HC.out i2 wo5 hb (by omega)
                      have c3 := HC.out i3 wo5 hb (by omega)
                      have c4 := HC.out i4 wo5 hb (by omega)
                      have c5 := HC.out i5 wo5 hb (by omega)
                      have hVR := valL_range hff.1 hff.2 rfl
                      obtain ⟨x1, hx1⟩ := ex_eq (xs.getD i1 0)
                      obtain ⟨x2, hx2⟩ := ex_eq (xs.getD i2 0)
                      obtain ⟨x3, hx3⟩ := ex_eq (xs.getD i3 0)
                      obtain ⟨x4, hx4⟩ := ex_eq (xs.getD i4 0)
                      obtain ⟨x5, hx5⟩ := ex_eq (xs.getD i5 0)
                      have hfe : [xs.getD i1 0, xs.getD i2 0, xs.getD i3 0, xs.getD i4 0, xs.getD i5 0] = [x1, x2, x3, x4, x5] := by rw [hx1, hx2, hx3, hx4, hx5]
                      have hFy : K5 (pk 1 [xs.getD i1 0, xs.getD i2 0, xs.getD i3 0, xs.getD i4 0] (xs.drop (i5 + 1)) (upd st [x1, x2, x3, x4, x5])) = FIN := by rw [← hfe]; exact hFx
                      rw [hfe] at hff hVR
                      rw [hx1] at c1
                      rw [hx2] at c2
                      rw [hx3] at c3
                      rw [hx4] at c4
                      rw [hx5] at c5
                      have HFY := hide hFy
                      have HFF := hide hff
                      have HGS := hide hb.size
                      clear hFx hFy hfe hkx hF hfi hff hx1 hx2 hx3 hx4 hx5 HPK
                      go_wp2
                      go_still_tail 20, (by kernel_rfl)
                      change wpList _ _ _ _ _ wo5.drew
                      obtain ⟨w2, hw2⟩ := ex_eq wo5.drew
                      have hb2 : Below w.heap.size w w2 := by rw [← hw2]; exact bdrewN hb 1
                      have hL2 : Lst w2 w.heap.size u5 st.1 := by rw [← hw2]; exact hL
                      rw [hw2]
                      have hg2 : w.heap.size ≤ w2.heap.size := hb2.size
                      have hM := Lst.made w2 hg2 [x1, x2, x3, x4, x5] 5 rfl (by omega) #[.int .i64 x1, .int .i64 x2, .int .i64 x3, .int .i64 x4, .int .i64 x5] rfl
                      have hL3 := hL2.alloc (.cells #[.int .i64 x1, .int .i64 x2, .int .i64 x3, .int .i64 x4, .int .i64 x5] 2)
                      have hb3 := hb2.alloc hg2 (.cells #[.int .i64 x1, .int .i64 x2, .int .i64 x3, .int .i64 x4, .int .i64 x5] 2)
                      obtain ⟨Am, cm, hm, hMo⟩ := hM.formn (n := 5) rfl
                      injection hm with e1 e2 e3
                      subst e1 e3
                      have HLK := hide (l03Look_any _ 5 _ _ _ hMo.rd (Nat.le_refl _) HFF.out.1 HFF.out.2)
                      have hMl : Lst _ w.heap.size _ [x1, x2, x3, x4, x5] := Lst.of hMo
                      have HOKU := hide (upd_ok hok.out (five := [x1, x2, x3, x4, x5]) rfl HFF.out).1
                      have HUY := hide (fun (h : st.2 < valL [x1, x2, x3, x4, x5]) => upd_yes h)
                      have HUN := hide (fun (h : ¬ st.2 < valL [x1, x2, x3, x4, x5]) => upd_no h)
                      obtain ⟨V, hV⟩ := ex_eq (valL [x1, x2, x3, x4, x5])
                      rw [hV] at hVR HLK HUY HUN
                      obtain ⟨KK, hKK⟩ := ex_eq (kindL [x1, x2, x3, x4, x5])
                      rw [hKK] at HLK
                      have hst : -1 ≤ st.2 ∧ st.2 < 3341637 := by rcases hok.out with ⟨_, h⟩ | ⟨_, _, _, h1, h2⟩ <;> omega
                      clear hw2 hL2 hb2 hb hL hM hMo e2 hV hKK hok c1 c2 c3 c4 c5
                      by_cases hlt : st.2 < V
                      · skip
                        have HU := hide (HUY.out hlt)
                        clear HUY HUN
                        go_wp2_with (go_at_call 55; refine HLK.out.mono ?_; rintro e w4 ⟨rfl, hb4⟩; have hlt2 := hlt)
                        have hbz := hb3.trans (hb4.mono hb3.size)
                        have hMz := Lst.below hMl hb4
                        have hLz := Lst.below hL3 hb4
                        rw [HU.out] at HFY HOKU
                        go_roundw
                        case rel => exact ⟨i5 + 1, ([x1, x2, x3, x4, x5], V), by omega, by omega, by go_num, rfl, hMz, hbz, HOKU, HFY, HSK5⟩
                        case measure => simp [intOf]; omega
                      · skip
                        have HU := hide (HUN.out hlt)
                        clear HUY HUN
                        go_wp2_with (go_at_call 55; refine HLK.out.mono ?_; rintro e w4 ⟨rfl, hb4⟩; have hlt2 := hlt)
                        have hbz := hb3.trans (hb4.mono hb3.size)
                        have hMz := Lst.below hMl hb4
                        have hLz := Lst.below hL3 hb4
                        rw [HU.out] at HFY HOKU
                        go_roundw
                        case rel => exact ⟨i5 + 1, st, by omega, by omega, by go_num, rfl, hLz, hbz, HOKU, HFY, HSK5⟩
                        case measure => simp [intOf]; omega
                    · have hge : xs.length ≤ i5 := by rw [HL.out]; omega
                      have hFx := hF.out
                      rw [pk_over _ _ _ _ _ hge] at hFx
                      rw [HK5.out] at hFx
                      have HFX := hide hFx
                      clear hFx hge hF hfi
                      go_wp2
                      go_roundw
                      case rel => exact ⟨i4 + 1, st, by omega, by omega, by go_num, rfl, hL, hb, hok, HFX, HSK4⟩
                      case measure => simp [intOf]; omega
                · have hge : xs.length ≤ i4 := by rw [HL.out]; omega
                  have hFx := hF.out
                  rw [pk_over _ _ _ _ _ hge] at hFx
                  rw [HK4.out] at hFx
                  have HFX := hide hFx
                  clear hFx hge hF hfi
                  go_wp2
                  go_roundw
                  case rel => exact ⟨i3 + 1, st, by omega, by omega, by go_num, rfl, hL, hb, hok, HFX, HSK3⟩
                  case measure => simp [intOf]; omega
            · have hge : xs.length ≤ i3 := by rw [HL.out]; omega
              have hFx := hF.out
              rw [pk_over _ _ _ _ _ hge] at hFx
              rw [HK3.out] at hFx
              have HFX := hide hFx
              clear hFx hge hF hfi
              go_wp2
              go_roundw
              case rel => exact ⟨i2 + 1, st, by omega, by omega, by go_num, rfl, hL, hb, hok, HFX, HSK2⟩
              case measure => simp [intOf]; omega
        · have hge : xs.length ≤ i2 := by rw [HL.out]; omega
          have hFx := hF.out
          rw [pk_over _ _ _ _ _ hge] at hFx
          rw [HK2.out] at hFx
          have HFX := hide hFx
          clear hFx hge hF hfi
          go_wp2
          go_roundw
          case rel => exact ⟨i1 + 1, st, by omega, by go_num, rfl, hL, hb, hok, HFX, HSK1⟩
          case measure => simp [intOf]; omega
    · have hge : xs.length ≤ i1 := by rw [HL.out]; omega
      have hFx := hF.out
      rw [pk_over _ _ _ _ _ hge] at hFx
      subst hFx
      clear hge hF hfi
      go_wp2
      go_ret2
      exact ⟨_, rfl, hL, hb⟩

end Go.Proofs.Ytlldocdmjeeaaaa.hand
