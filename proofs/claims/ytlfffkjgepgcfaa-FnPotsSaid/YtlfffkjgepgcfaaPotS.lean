/-
  Pots in the reference. Conditions: those of each theorem.
-/
import Derived.Test.YtlfffkjgepgcfaaPotP
namespace Go.Proofs.Ytlfffkjgepgcfaa.chance
open Go.RowKit
open base mem

theorem l00Min_any (a b : Int) (w : World) : Calls Try.prog 88 #[.int .i64 a, .int .i64 b] w fun e w' => e = .returned (.int .i64 (min a b)) ∧ w = w' := by
  by_cases h : a < b
  · have hm : min a b = a := by omega
    rw [hm]
    clear hm
    go_enter Try.func88, Try.ntmps88
    go_wp2
    go_ret
    exact ⟨rfl, rfl⟩
  · have hm : min a b = b := by omega
    rw [hm]
    clear hm
    by_cases h2 : b < a
    · go_enter Try.func88, Try.ntmps88
      go_wp2
      go_ret
      exact ⟨rfl, rfl⟩
    · obtain rfl : a = b := by omega
      go_enter Try.func88, Try.ntmps88
      go_wp2
      go_ret
      exact ⟨rfl, rfl⟩

theorem l00Max_any (a b : Int) (w : World) : Calls Try.prog 87 #[.int .i64 a, .int .i64 b] w fun e w' => e = .returned (.int .i64 (max a b)) ∧ w = w' := by
  by_cases h : a < b
  · have hm : max a b = b := by omega
    rw [hm]
    clear hm
    go_enter Try.func87, Try.ntmps87
    go_wp2
    go_ret
    exact ⟨rfl, rfl⟩
  · have hm : max a b = a := by omega
    rw [hm]
    clear hm
    by_cases h2 : b < a
    · go_enter Try.func87, Try.ntmps87
      go_wp2
      go_ret
      exact ⟨rfl, rfl⟩
    · obtain rfl : a = b := by omega
      go_enter Try.func87, Try.ntmps87
      go_wp2
      go_ret
      exact ⟨rfl, rfl⟩

theorem setT_small (xs : List Int) (ob : List Bool) (high : Int) (k : Nat) (hk : k ≤ 6) : setT xs ob high k ≤ 63 := by
  have h := setT_lt xs ob high k
  have : 2 ^ k ≤ 2 ^ 6 := Nat.pow_le_pow_right (by decide) hk
  omega
def potsOut (xs : List Int) (ob : List Bool) : List Int := if (lvls xs ob xs.length).length = 0 then [] else allPots xs (lvls xs ob xs.length) xs.length
def setsOut (xs : List Int) (ob : List Bool) : List Int := setsL xs ob (lvls xs ob xs.length) xs.length (lvls xs ob xs.length).length

set_option maxRecDepth 100000 in
set_option maxHeartbeats 8000000 in
theorem l03Pots_any (A : Option Addr) (n c : Nat) (xs : List Int) (A2 : Option Addr) (c2 : Nat) (ob : List Bool) (B : Nat) (w : World) (hR : Rd w B A n xs) (hS : RdB w B A2 n ob) (hB : B ≤ w.heap.size) (h1 : 1 ≤ n) (h6 : n ≤ 6)
    (hx : ∀ i, i < n → 0 ≤ xs.getD i 0 ∧ xs.getD i 0 ≤ 1000000) :
    Calls Try.prog 70 #[.slice A n c, .slice A2 n c2] w fun e w' => ∃ p s, e = .returned (.tuple #[p, s]) ∧ Lst w' w.heap.size p (potsOut xs ob) ∧ Lst w' w.heap.size s (setsOut xs ob) ∧ Sep p s ∧ Below w.heap.size w w' := by
  have hl := hR.len
  have hlf := lvls_facts xs ob n
  have hll := lvls_len xs ob n
  have hpo : potsOut xs ob = if (lvls xs ob n).length = 0 then [] else allPots xs (lvls xs ob n) n := by unfold potsOut; rw [hl]
  have hso : setsOut xs ob = setsL xs ob (lvls xs ob n) n (lvls xs ob n).length := by unfold setsOut; rw [hl]
  have hnh := fun j hj => nh_level hlf.1 hlf.2 j hj
  have hpos : ∀ x ∈ lvls xs ob n, 0 < x ∧ x ≤ 1000000 := fun x hx' => by
    obtain ⟨h0, i, hi, _, he⟩ := (hlf.2 x).1 hx'
    have := hx i hi
    exact ⟨h0, by omega⟩
  obtain ⟨L, hL⟩ := ex_eq (lvls xs ob n)
  rw [hL] at hll hpo hso hnh hpos
  obtain ⟨m, hm⟩ := ex_eq L.length
  rw [hm] at hll hpo hso hnh
  have HNH := hide hnh
  have HLV := hide (show ∀ j, j < m → 0 < L.getD j 0 ∧ L.getD j 0 ≤ 1000000 from fun j hj => by
    have hj' : j < L.length := by rw [hm]; exact hj
    have e : L.getD j 0 = L[j] := by simp [List.getD, hj']
    rw [e]; exact hpos _ (List.getElem_mem hj'))
  have HLO := hide (show ∀ j, j ≤ m → 0 ≤ lowA L j ∧ lowA L j ≤ 1000000 from fun j hj => by
    unfold lowA
    split
    · omega
    · have hj' : j - 1 < L.length := by rw [hm]; omega
      have e : L.getD (j - 1) 0 = L[j - 1] := by simp [List.getD, hj']
      rw [e]
      have := hpos _ (List.getElem_mem hj')
      omega)
  obtain ⟨PO, hPO⟩ := ex_eq (potsOut xs ob)
  obtain ⟨SO, hSO⟩ := ex_eq (setsOut xs ob)
  rw [hPO] at hpo ⊢
  rw [hSO] at hso ⊢
  have HPO := hide hpo
  have HSO := hide hso
  have HX := hide hx
  have HM := hide hm
  obtain ⟨b, o, rfl, hbB, hc0⟩ := hR.2 (by omega)
  obtain ⟨b2, o2, rfl, hbB2, hc20⟩ := hS.2 (by omega)
  have HC := hide (fun (k : Nat) (w' : World) (hb : Below w.heap.size w w') (hk : k < n) => (hb.cell (p := ⟨b, o + k, none⟩) (Nat.lt_of_lt_of_le hbB hB)).trans (hc0 k hk))
  have HC2 := hide (fun (k : Nat) (w' : World) (hb : Below w.heap.size w w') (hk : k < n) => (hb.cell (p := ⟨b2, o2 + k, none⟩) (Nat.lt_of_lt_of_le hbB2 hB)).trans (hc20 k hk))
  have HP0 := hide ((Lst.new w (Nat.le_refl _)).alloc (.cells #[] 2))
  have HS0 := hide (Lst.new' (w.alloc (.cells #[] 2)) (B := w.heap.size) (by simp) (g := w.heap.size + 1) (by simp))
  have HB0 := hide (((Below.refl w.heap.size w).alloc (Nat.le_refl _) (.cells #[] 2)).alloc (by simp) (.cells #[] 2))
  clear hpo hso hPO hSO hx hm hnh hpos hL hlf hR hS hc0 hc20 hl
  go_enter Try.func70, Try.ntmps70
  go_wp2
  go_loopw [6, 7, 8] (fun p s lo wr => ∃ (j : Nat) (A6 A7 : Option Addr) (c6 c7 : Nat), j ≤ m ∧ lo = .int .i64 (lowA L j) ∧ p = .slice A6 j c6 ∧ s = .slice A7 j c7 ∧ Own wr w.heap.size A6 j c6 (potsL xs L n j) ∧ Own wr w.heap.size A7 j c7 (setsL xs ob L n j) ∧ Sep (.slice A6 j c6) (.slice A7 j c7) ∧ Below w.heap.size w wr) (fun p _ _ _ => m - lenOf p)
  case atStart => exact ⟨0, _, _, _, _, Nat.zero_le _, rfl, rfl, rfl, HP0.out, HS0.out, .inr (by simp [Value.ownBlock]), HB0.out⟩
  case round =>
    obtain ⟨j, A6, A7, c6, c7, hj, rfl, rfl, rfl, hP, hQ, hsep, hb⟩ := hrel
    have hlo := HLO.out j hj
    have hnh := HNH.out j hj
    obtain ⟨low, hlw⟩ := ex_eq (lowA L j)
    rw [hlw] at hlo hnh
    have HLW := hide hlw
    have HNJ := hide hnh
    obtain ⟨wo, rfl⟩ : ∃ wo : World, wo = wr := ⟨_, rfl⟩
    rw [hlw]
    clear hlw hnh
    go_wp2
    go_loopw [9, 19] (fun hh i wr => ∃ k q : Nat, k ≤ n ∧ i = .int .i64 k ∧ hh = .int .i64 (nhT xs ob low k) ∧ Hid (wr = wo.drewN q)) (fun _ i _ => n - (intOf i).toNat)
    case atStart => exact ⟨0, 0, Nat.zero_le _, rfl, rfl, rfl⟩
    case round =>
      obtain ⟨k, q, hk, rfl, rfl, hw⟩ := hrel
      have hbq : Below w.heap.size w wr := by rw [hw.out]; exact bdrewN hb q
      by_cases hlt : k < n
      · have c1 := HC.out k wr hbq hlt
        have c2' := HC2.out k wr hbq hlt
        have hxk := HX.out k hlt
        have hst : nhT xs ob low (k + 1) = if live ob k = true ∧ low < xs.getD k 0 ∧ (nhT xs ob low k = 0 ∨ xs.getD k 0 < nhT xs ob low k) then xs.getD k 0 else nhT xs ob low k := rfl
        have hli : live ob k = !ob.getD k false := rfl
        obtain ⟨N, hN⟩ := ex_eq (nhT xs ob low k)
        obtain ⟨x, hxx⟩ := ex_eq (xs.getD k 0)
        obtain ⟨bb, hbb⟩ := ex_eq (ob.getD k false)
        rw [hbb] at hli c2'
        rw [hN, hxx, hli] at hst
        rw [hxx] at c1 hxk
        rw [hN]
        have HST := hide hst
        clear hst hli hN hxx hbb hbq
        cases bb
        · by_cases h3 : low < x
          · by_cases h4 : N = 0
            · have HF := hide (show nhT xs ob low (k + 1) = x by rw [HST.out]; simp [h3, h4])
              subst h4
              clear HST
              go_wp2
              go_roundw
              case rel => exact ⟨k + 1, q, by omega, by go_num, by rw [HF.out], hw⟩
              case measure => simp [intOf]; omega
            · have e4 : ((N : Int) == 0) = false := by simp [h4]
              by_cases h5 : x < N
              · have HF := hide (show nhT xs ob low (k + 1) = x by rw [HST.out]; simp [h3, h5])
                clear HST h4
                go_wp2
                go_roundw
                case rel => exact ⟨k + 1, q, by omega, by go_num, by rw [HF.out], hw⟩
                case measure => simp [intOf]; omega
              · have HF := hide (show nhT xs ob low (k + 1) = N by rw [HST.out]; simp [h4, h5])
                clear HST h4
                go_wp2
                go_roundw
                case rel => exact ⟨k + 1, q, by omega, by go_num, by rw [HF.out], hw⟩
                case measure => simp [intOf]; omega
          · have HF := hide (show nhT xs ob low (k + 1) = N by rw [HST.out]; simp [h3])
            clear HST
            go_wp2
            go_roundw
            case rel => exact ⟨k + 1, q, by omega, by go_num, by rw [HF.out], hw⟩
            case measure => simp [intOf]; omega
        · have HF := hide (show nhT xs ob low (k + 1) = N by rw [HST.out]; simp)
          clear HST
          go_wp2
          go_roundw
          case rel => exact ⟨k + 1, q, by omega, by go_num, by rw [HF.out], hw⟩
          case measure => simp [intOf]; omega
      · have hkn : k = n := by omega
        have hNv : nhT xs ob low k = if j < m then L.getD j 0 else 0 := by rw [hkn]; exact HNJ.out
        have d1 : decide ((k : Int) < (n : Int)) = false := decide_eq_false (by omega)
        obtain ⟨N, hN⟩ := ex_eq (nhT xs ob low k)
        rw [hN] at hNv ⊢
        obtain ⟨wq, hwq⟩ := ex_eq wr
        have hP2 : Own wr w.heap.size A6 j c6 (potsL xs L n j) := by rw [hw.out]; exact hP.drewN q
        have hQ2 : Own wr w.heap.size A7 j c7 (setsL xs ob L n j) := by rw [hw.out]; exact hQ.drewN q
        clear hwq wq hkn hN hP hQ HNJ hb hw
        by_cases hjm : j < m
        · rw [if_pos hjm] at hNv
          have hH := HLV.out j hjm
          have HNV := hide hNv
          rw [← hNv] at hH
          clear hNv
          have e0 : ((N : Int) == 0) = false := by simp; omega
          obtain ⟨wo, rfl⟩ : ∃ wo : World, wo = wr := ⟨_, rfl⟩
          go_wp2
          go_loopw [11, 12, 56] (fun pp ss i wr => ∃ (k q s : Nat), k ≤ n ∧ i = .int .i64 k ∧ pp = .int .i64 (potT xs N low k) ∧ ss = .int .i64 s ∧ Hid (setT xs ob N k = s) ∧ Hid (wr = wo.drewN q)) (fun _ _ i _ => n - (intOf i).toNat)
          case atStart => exact ⟨0, 0, 0, Nat.zero_le _, rfl, rfl, rfl, rfl, rfl⟩
          case round =>
            obtain ⟨k, q, s, hk, rfl, rfl, rfl, hs, hw⟩ := hrel
            have hbq3 : Below w.heap.size w wr := by rw [hw.out]; exact bdrewN hbq q
            by_cases hlt : k < n
            · have c1 := HC.out k wr hbq3 hlt
              have c2' := HC2.out k wr hbq3 hlt
              have hxk := HX.out k hlt
              have hpb := potT_bound xs N low k hlo.1 (fun i hi => (HX.out i (by omega)).2)
              have hsb := setT_small xs ob N k (by omega)
              have hst : potT xs N low (k + 1) = potT xs N low k + max 0 (min (xs.getD k 0) N - low) := rfl
              have hst2 : setT xs ob N (k + 1) = if live ob k = true ∧ N ≤ xs.getD k 0 then setT xs ob N k + 2 ^ k else setT xs ob N k := rfl
              have hli : live ob k = !ob.getD k false := rfl
              obtain ⟨P, hP⟩ := ex_eq (potT xs N low k)
              obtain ⟨x, hxx⟩ := ex_eq (xs.getD k 0)
              obtain ⟨bb, hbb⟩ := ex_eq (ob.getD k false)
              rw [hbb] at hli c2'
              rw [hs.out, hxx, hli] at hst2
              rw [hP, hxx] at hst
              rw [hxx] at c1 hxk
              rw [hs.out] at hsb
              rw [hP] at hpb ⊢
              obtain ⟨M, hM⟩ := ex_eq (min x N)
              have hMb : 0 ≤ M ∧ M ≤ 1000000 := by omega
              rw [hM] at hst
              have HM1 := hide hM
              obtain ⟨T, hT⟩ := ex_eq (max 0 (M - low))
              have hTb : 0 ≤ T ∧ T ≤ 1000000 := by omega
              rw [hT] at hst
              have HT := hide hT
              have HST := hide hst
              have HST2 := hide hst2
              have hPb : 0 ≤ P ∧ P ≤ 6000000 := by omega
              clear hst hst2 hli hP hxx hbb hbq3 hM hT hpb hs
              cases bb
              · by_cases h3 : N ≤ x
                · have HF := hide (show setT xs ob N (k + 1) = s + 2 ^ k by rw [HST2.out]; simp [h3])
                  clear HST2
                  obtain rfl | rfl | rfl | rfl | rfl | rfl : k = 0 ∨ k = 1 ∨ k = 2 ∨ k = 3 ∨ k = 4 ∨ k = 5 := by omega
                  all_goals
                    (try rw [Nat.add_zero] at c1 c2')
                    go_wp2_with (first | (go_at_call 88; refine (l00Min_any _ _ _).mono ?_; rintro e w' ⟨rfl, rfl⟩; rw [HM1.out]) | (go_at_call 87; refine (l00Max_any _ _ _).mono ?_; rintro e w' ⟨rfl, rfl⟩; rw [HT.out]))
                    go_roundw
                    case rel => first | exact ⟨0 + 1, q, s + 2 ^ 0, by omega, by go_num, int_congr HST.out.symm, int_congr (by simp), HF, hw⟩ | exact ⟨1 + 1, q, s + 2 ^ 1, by omega, by go_num, int_congr HST.out.symm, int_congr (by simp), HF, hw⟩ | exact ⟨2 + 1, q, s + 2 ^ 2, by omega, by go_num, int_congr HST.out.symm, int_congr (by simp), HF, hw⟩ | exact ⟨3 + 1, q, s + 2 ^ 3, by omega, by go_num, int_congr HST.out.symm, int_congr (by simp), HF, hw⟩ | exact ⟨4 + 1, q, s + 2 ^ 4, by omega, by go_num, int_congr HST.out.symm, int_congr (by simp), HF, hw⟩ | exact ⟨5 + 1, q, s + 2 ^ 5, by omega, by go_num, int_congr HST.out.symm, int_congr (by simp), HF, hw⟩
                    case measure => simp [intOf] <;> omega
                · have HF := hide (show setT xs ob N (k + 1) = s by rw [HST2.out]; simp [h3])
                  clear HST2
                  go_wp2_with (first | (go_at_call 88; refine (l00Min_any _ _ _).mono ?_; rintro e w' ⟨rfl, rfl⟩; rw [HM1.out]) | (go_at_call 87; refine (l00Max_any _ _ _).mono ?_; rintro e w' ⟨rfl, rfl⟩; rw [HT.out]))
                  go_roundw
                  case rel => exact ⟨k + 1, q, s, by omega, by go_num, by rw [HST.out], rfl, HF, hw⟩
                  case measure => simp [intOf] <;> omega
              · have HF := hide (show setT xs ob N (k + 1) = s by rw [HST2.out]; simp)
                clear HST2
                go_wp2_with (first | (go_at_call 88; refine (l00Min_any _ _ _).mono ?_; rintro e w' ⟨rfl, rfl⟩; rw [HM1.out]) | (go_at_call 87; refine (l00Max_any _ _ _).mono ?_; rintro e w' ⟨rfl, rfl⟩; rw [HT.out]))
                go_roundw
                case rel => exact ⟨k + 1, q, s, by omega, by go_num, by rw [HST.out], rfl, HF, hw⟩
                case measure => simp [intOf] <;> omega
            · have hkn : k = n := by omega
              have d3 : decide ((k : Int) < (n : Int)) = false := decide_eq_false (by omega)
              have hpst := potsL_step xs L n j
              have hsst := setsL_step xs ob L n j
              obtain ⟨P, hP⟩ := ex_eq (potT xs N low k)
              rw [hP]
              rw [show potT xs (L.getD j 0) (lowA L j) n = P by rw [← HNV.out, HLW.out, ← hkn]; exact hP] at hpst
              rw [show setT xs ob (L.getD j 0) n = s by rw [← HNV.out, ← hkn]; exact hs.out] at hsst
              have HPS := hide hpst
              have HSS := hide hsst
              have hlw2 : lowA L (j + 1) = N := by unfold lowA; rw [if_neg (by omega)]; exact HNV.out.symm
              have HLW2 := hide hlw2
              have hP3 : Own wr w.heap.size A6 j c6 (potsL xs L n j) := by rw [hw.out]; exact hP2.drewN q
              have hQ3 : Own wr w.heap.size A7 j c7 (setsL xs ob L n j) := by rw [hw.out]; exact hQ2.drewN q
              have hb3 : Below w.heap.size w wr := by rw [hw.out]; exact bdrewN hbq q
              have hpl := potsL_len xs L n j
              have hsl := setsL_len xs ob L n j
              have hg3 := hb3.size
              obtain ⟨PL, hPL⟩ := ex_eq (potsL xs L n j)
              obtain ⟨SL, hSL⟩ := ex_eq (setsL xs ob L n j)
              rw [hPL] at hP3 hpl HPS
              rw [hSL] at hQ3 hsl HSS
              clear hpst hsst hlw2 hP hkn hs hPL hSL hP2 hQ2 hbq
              go_wp2_with (first | (at_builtin; refine wpList_app rfl (.tmp 89) (.tmp 91) rfl w.heap.size _ PL [P] rfl ((Lst.of hP3).alloc _) (some ⟨wr.heap.size, 0, none⟩) 1 1 rfl (rd_one wr P 2) (fun h => by cases h) (by omega) (by simp; omega) ?_; intro v4 w4 ho4 hg4 hbk4; obtain ⟨A4, c4, rfl, ho4'⟩ := ho4.formn (n := j + 1) (by simp [hpl]); have hQ4 := World.ownsRow.kept (h := hQ3.alloc (.cells #[.int .i64 P] 2)) hg4 hsep.symm; have hsep4 := Sep.app hsep hbk4 (fun k hk => by have := ((hQ3.alloc (.cells #[.int .i64 P] 2)).ownBlock k hk).2; exact this); have hb4 := (hb3.alloc hg3 (.cells #[.int .i64 P] 2)).grown hg4 (by simp; omega) (fun k hk => (((Lst.of hP3).alloc (.cells #[.int .i64 P] 2)).blk k hk).1)) | (at_builtin; refine wpList_app rfl (.tmp 93) (.tmp 95) rfl w.heap.size _ SL [((s : Nat) : Int)] rfl ((Lst.of hQ4).alloc _) (some ⟨w4.heap.size, 0, none⟩) 1 1 rfl (rd_one w4 ((s : Nat) : Int) 2) (fun h => by cases h) (by omega) (by simp; have := hb4.size; omega) ?_; intro v5 w5 ho5 hg5 hbk5))
              obtain ⟨A5, c5, rfl, ho5'⟩ := ho5.formn (n := j + 1) (by simp [hsl])
              have hP5 : Own w5 w.heap.size A4 (j + 1) c4 (PL ++ [P]) := World.ownsRow.kept (h := ho4'.alloc (.cells #[.int .i64 ((s : Nat) : Int)] 2)) hg5 hsep4
              have hsep5 : Sep (.slice A4 (j + 1) c4) (.slice A5 (j + 1) c5) := (Sep.app hsep4.symm hbk5 (fun k hk => by have := ((ho4'.alloc (.cells #[.int .i64 ((s : Nat) : Int)] 2)).ownBlock k hk).2; exact this)).symm
              have hb5 := (hb4.alloc hb4.size (.cells #[.int .i64 ((s : Nat) : Int)] 2)).grown hg5 (by simp; have := hb4.size; omega) (fun k hk => (((Lst.of hQ4).alloc (.cells #[.int .i64 ((s : Nat) : Int)] 2)).blk k hk).1)
              clear ho4 hg4 hbk4 ho5 hg5 hbk5 hQ4 hsep4 hb4 hP3 hQ3
              go_roundw
              case rel => exact ⟨j + 1, A4, A5, c4, c5, by omega, by rw [HLW2.out], rfl, rfl, by rw [HPS.out]; exact hP5, by rw [HSS.out]; exact ho5', hsep5, hb5⟩
              case measure => simp [lenOf]; omega
        · rw [if_neg hjm] at hNv
          subst hNv
          obtain rfl : j = m := by omega
          clear hjm
          rcases Nat.eq_zero_or_pos j with hj0 | hj0
          · subst hj0
            have HPF := hide (show PO = [] by rw [HPO.out]; rfl)
            have HSF := hide (show SO = [] by rw [HSO.out]; rfl)
            have hb2 := hbq
            have d0 : decide ((0 : Int) < ((0 : Nat) : Int)) = false := by decide
            have HP3 := hide (show Lst wr w.heap.size (.slice A6 0 c6) [] from Lst.of (by simpa [potsL] using hP2))
            have HS3 := hide (show Lst wr w.heap.size (.slice A7 0 c7) [] from Lst.of (by simpa [setsL] using hQ2))
            have HB3 := hide hb2
            have HSP := hide hsep
            obtain ⟨wo, rfl⟩ : ∃ wo : World, wo = wr := ⟨_, rfl⟩
            clear hP2 hQ2 hbq hb2 hsep
            go_wp2
            go_loopw [100] (fun i wr => ∃ k q : Nat, k ≤ n ∧ i = .int .i64 k ∧ Hid (wr = wo.drewN q)) (fun i _ => n - (intOf i).toNat)
            case atStart => exact ⟨0, 0, Nat.zero_le _, rfl, rfl⟩
            case round =>
              obtain ⟨k, q, hk, rfl, hw⟩ := hrel
              by_cases hlt : k < n
              · go_wp2
                go_roundw
                case rel => exact ⟨k + 1, q, by omega, by go_num, hw⟩
                case measure => simp [intOf]; omega
              · go_wp2
                go_ret2
                exact ⟨_, _, rfl, by rw [HPF.out, hw.out]; exact HP3.out.drewN q, by rw [HSF.out, hw.out]; exact HS3.out.drewN q, HSP.out, by rw [hw.out]; exact bdrewN HB3.out q⟩
          · obtain ⟨j', rfl⟩ : ∃ j', j = j' + 1 := ⟨j - 1, by omega⟩
            have hpst := potsL_step xs L n j'
            have hall : PO = potsL xs L n j' ++ [potT xs (L.getD j' 0) (lowA L j') n + extT xs (L.getD j' 0) n] := by
              rw [HPO.out, if_neg (by omega), allPots, HM.out]; rfl
            have hlow : lowA L (j' + 1) = L.getD j' 0 := by unfold lowA; rw [if_neg (by omega)]; rfl
            have hlw3 : low = L.getD j' 0 := by rw [← HLW.out]; exact hlow
            rw [← hlw3] at hall hpst
            have hpl := potsL_len xs L n j'
            obtain ⟨PL, hPL⟩ := ex_eq (potsL xs L n j')
            have hbd := potT_bound xs low (lowA L j') n (HLO.out j' (by omega)).1 (fun i hi => (HX.out i hi).2)
            obtain ⟨V, hV⟩ := ex_eq (potT xs low (lowA L j') n)
            rw [hPL] at hpl hall hpst
            rw [hV] at hbd hall hpst
            rw [hpst] at hP2
            have hV6 : 0 ≤ V ∧ V ≤ 6000000 := by omega
            have HAL := hide hall
            have HSF := hide (show SO = setsL xs ob L n (j' + 1) from HSO.out)
            have d0 : decide ((0 : Int) < ((j' + 1 : Nat) : Int)) = true := decide_eq_true (by omega)
            have HPA := hide (show Own wr w.heap.size A6 (j' + 1) c6 (PL ++ [V + extT xs low 0]) by simpa [extT] using hP2)
            have HQ3 := hide hQ2
            have HB3 := hide hbq
            have HSP := hide hsep
            have HPL := hide hpl
            obtain ⟨g6, rfl, hg6, hg6'⟩ := hP2.form (by omega)
            obtain ⟨wo, rfl⟩ : ∃ wo : World, wo = wr := ⟨_, rfl⟩
            clear hP2 hQ2 hbq hsep hpst hall hlow hlw3 hPL hV hbd hpl
            go_wp2
            go_loopw [100] (fun i wr => ∃ k : Nat, k ≤ n ∧ i = .int .i64 k ∧ Own wr w.heap.size (some ⟨g6, 0, none⟩) (j' + 1) c6 (PL ++ [V + extT xs low k]) ∧ Own wr w.heap.size A7 (j' + 1) c7 (setsL xs ob L n (j' + 1)) ∧ Below w.heap.size w wr) (fun i _ => n - (intOf i).toNat)
            case atStart => exact ⟨0, Nat.zero_le _, rfl, HPA.out, HQ3.out, HB3.out⟩
            case round =>
              clear HPA HQ3 HB3
              obtain ⟨k, hk, rfl, hP, hQ, hb⟩ := hrel
              by_cases hlt : k < n
              · have c1 := HC.out k wr hb hlt
                have hxk := HX.out k hlt
                have hst : extT xs low (k + 1) = if low < xs.getD k 0 then extT xs low k + (xs.getD k 0 - low) else extT xs low k := rfl
                have heb := extT_bound xs low k hlo.1 (fun i hi => (HX.out i (by omega)).2)
                obtain ⟨x, hxx⟩ := ex_eq (xs.getD k 0)
                rw [hxx] at hst c1 hxk
                obtain ⟨T, hT⟩ := ex_eq (extT xs low k)
                rw [hT] at hst hP heb
                have hT6 : 0 ≤ T ∧ T ≤ 6000000 := by omega
                by_cases h3 : low < x
                · rw [if_pos h3] at hst
                  have hc := World.ownsRow.cellAt (h := hP) j' (by omega)
                  rw [ivs_at _ _ (by simp [HPL.out]), show (PL ++ [V + T]).getD j' 0 = V + T by simp [List.getD, HPL.out]] at hc
                  have hf := World.ownsRow.frozenAt (h := hP) j'
                  have hput := World.ownsRow.stored (h := hP) j' (.int .i64 (V + T + (x - low)))
                  rw [ivs_set, show (PL ++ [V + T]).set j' (V + T + (x - low)) = PL ++ [V + extT xs low (k + 1)] by rw [hst, List.set_append_right _ _ (by rw [HPL.out]; exact Nat.le_refl _), HPL.out]; simp; omega] at hput
                  have hQk := World.ownsRow.kept (h := hQ) hput.2 (by
                    rcases HSP.out.symm with h | h
                    · exact .inl h
                    · exact .inr h)
                  have HPU := hide hput.1
                  have HQU := hide hQk
                  have HBU := hide (hb.grown hput.2 hb.size (fun k hk => by cases hk; exact hg6))
                  obtain ⟨Y, hY⟩ := ex_eq (V + T)
                  have hYb : 0 ≤ Y ∧ Y ≤ 12000000 := by omega
                  rw [hY] at hc HPU HQU HBU
                  clear hst heb hxx hT hput hQk hP hQ hb hV6 hT6 hY
                  go_upto_region 28 with fail
                  go_region
                  all_goals
                    go_wp2
                    go_roundw
                    case rel => exact ⟨k + 1, by omega, by go_num, Own.drewN HPU.out 1, Own.drewN HQU.out 1, bdrewN HBU.out 1⟩
                    case measure => simp [intOf]; omega
                · rw [if_neg h3] at hst
                  have HST := hide hst
                  clear hst heb hxx hT
                  go_wp2
                  go_roundw
                  case rel => exact ⟨k + 1, by omega, by go_num, by rw [HST.out]; exact hP, hQ, hb⟩
                  case measure => simp [intOf]; omega
              · have hkn : k = n := by omega
                rw [hkn, ← HAL.out] at hP
                rw [← HSF.out] at hQ
                clear hkn
                go_wp2
                go_ret2
                exact ⟨_, _, rfl, Lst.of hP, Lst.of hQ, HSP.out, hb⟩

theorem setsOut_len (xs : List Int) (ob : List Bool) : (setsOut xs ob).length = (lvls xs ob xs.length).length := by unfold setsOut; rw [setsL_len]
theorem potsOut_len (xs : List Int) (ob : List Bool) : (potsOut xs ob).length = (lvls xs ob xs.length).length := by
  unfold potsOut
  split
  · rename_i h; rw [h]; rfl
  · unfold allPots
    rw [List.length_append, potsL_len]
    simp
    omega
def spOk (xs : List Int) (ob : List Bool) : Bool := stOk xs ob && !((lvls xs ob xs.length).length == 0)
def spPots (xs : List Int) (ob : List Bool) : List Int := if spOk xs ob = true then potsOut xs ob else []
def spSets (xs : List Int) (ob : List Bool) : List Int := if spOk xs ob = true then setsOut xs ob else []
theorem st_facts {xs : List Int} {ob : List Bool} (h : stOk xs ob = true) : (1 ≤ xs.length ∧ xs.length ≤ 6) ∧ ob.length = xs.length ∧ ∀ i, i < xs.length → 0 ≤ xs.getD i 0 ∧ xs.getD i 0 ≤ 1000000 := by
  unfold stOk at h
  simp only [Bool.and_eq_true, decide_eq_true_iff, Bool.not_eq_true'] at h
  exact ⟨h.1, h.2.1, fun i hi => bad_at h.2.2.2 hi⟩
theorem sp_len (xs : List Int) (ob : List Bool) : (spPots xs ob).length ≤ 6 ∧ (spSets xs ob).length = (spPots xs ob).length := by
  unfold spPots spSets
  cases h : spOk xs ob
  · simp
  · rw [if_pos rfl, if_pos rfl, potsOut_len, setsOut_len]
    unfold spOk at h
    rw [Bool.and_eq_true] at h
    have := (st_facts h.1).1
    have := lvls_len xs ob xs.length
    omega

set_option maxHeartbeats 2000000 in
theorem spec_SidePots (A : Option Addr) (n c : Nat) (xs : List Int) (A2 : Option Addr) (m c2 : Nat) (ob : List Bool) (w : World) (hR : Rd w w.heap.size A n xs) (hn : n ≤ 1048576) (_hnc : n ≤ c) (hS : RdB w w.heap.size A2 m ob) (hm : m ≤ 1048576) (_hmc : m ≤ c2) :
    Calls Try.prog 36 #[.slice A n c, .slice A2 m c2] w fun e w' => ∃ A' c' A3 c3, e = .returned (.tuple #[.slice A' (spPots xs ob).length c', .slice A3 (spSets xs ob).length c3, .bool (spOk xs ob)]) ∧
      Own w' w.heap.size A' (spPots xs ob).length c' (spPots xs ob) ∧ Own w' w.heap.size A3 (spSets xs ob).length c3 (spSets xs ob) ∧ Sep (.slice A' (spPots xs ob).length c') (.slice A3 (spSets xs ob).length c3) ∧ Below w.heap.size w w' := by
  have H := hide (l03Stakes_any A n c xs A2 m c2 ob w.heap.size w hR hS hn hm)
  cases hs : stOk xs ob
  · have hk : spOk xs ob = false := by simp [spOk, hs]
    have ho : spPots xs ob = [] := by simp [spPots, hk]
    have ho2 : spSets xs ob = [] := by simp [spSets, hk]
    rw [hk, ho, ho2]
    rw [hs] at H
    clear hk ho ho2 hR hS
    go_enter Try.func36, Try.ntmps36
    go_wp2_with fail
    refine H.out.mono ?_
    rintro e w' ⟨rfl, q, rfl⟩
    go_wp2
    go_ret3
    exact ⟨none, 0, none, 0, rfl, Own.nil _ _, Own.nil _ _, .inl rfl, bdrewN (Below.refl _ _) _⟩
  · obtain ⟨h16, hlo, hx⟩ := st_facts hs
    rw [hR.len] at h16 hx
    obtain rfl : m = n := by rw [← hS.len, hlo, hR.len]
    have HPT := hide (fun q => l03Pots_any A m c xs A2 c2 ob w.heap.size (w.drewN q) (hR.drewN q) (hS.drewN q) (Nat.le_refl _) h16.1 h16.2 hx)
    rw [hs] at H
    have hpl := potsOut_len xs ob
    have hsl := setsOut_len xs ob
    have hok : spOk xs ob = !((potsOut xs ob).length == 0) := by rw [spOk, hs, hpl]; rfl
    have hp1 : spPots xs ob = if spOk xs ob = true then potsOut xs ob else [] := rfl
    have hs1 : spSets xs ob = if spOk xs ob = true then setsOut xs ob else [] := rfl
    obtain ⟨K, hK⟩ := ex_eq (spOk xs ob)
    obtain ⟨SP, hSP⟩ := ex_eq (spPots xs ob)
    obtain ⟨SS, hSS⟩ := ex_eq (spSets xs ob)
    rw [hK] at hok hp1 hs1 ⊢
    rw [hSP] at hp1 ⊢
    rw [hSS] at hs1 ⊢
    obtain ⟨P, hP⟩ := ex_eq (potsOut xs ob)
    obtain ⟨S, hS'⟩ := ex_eq (setsOut xs ob)
    rw [hP] at HPT hpl hok hp1
    rw [hS'] at HPT hsl hs1
    rw [← hpl] at hsl
    obtain ⟨l, hl⟩ := ex_eq P.length
    rw [hl] at hsl hok
    have HOK := hide hok
    have HP1 := hide hp1
    have HS1 := hide hs1
    have HL := hide hl
    have HSL := hide hsl
    clear hR hS hs hx hlo hpl hsl hok hp1 hs1 hK hSP hSS hP hS' hl
    by_cases h0 : l = 0
    · have HF := hide (show K = false ∧ SP = [] ∧ SS = [] by
        have hk : K = false := by rw [HOK.out, h0]; rfl
        exact ⟨hk, by rw [HP1.out, hk]; rfl, by rw [HS1.out, hk]; rfl⟩)
      have hb0 : ((l : Int) == 0) = true := by simp [h0]
      have hb1 : (l == 0) = true := by simp [h0]
      clear h0
      go_enter Try.func36, Try.ntmps36
      go_wp2_with (first | (go_at_call 69; refine H.out.mono ?_; rintro e w' ⟨rfl, q, rfl⟩) | (go_at_call 70; refine (HPT.out q).mono ?_; rintro e w2 ⟨p, s, rfl, hLp, hLs, hsep, hb2⟩; obtain ⟨A5, c5, rfl, hP5⟩ := hLp.formn (n := l) HL.out))
      go_ret3
      exact ⟨none, 0, none, 0, by rw [HF.out.1, HF.out.2.1, HF.out.2.2]; rfl, by rw [HF.out.2.1]; exact Own.nil _ _, by rw [HF.out.2.2]; exact Own.nil _ _, by rw [HF.out.2.1]; exact .inl rfl, (bdrewN (Below.refl _ _) _).trans hb2⟩
    · have HF := hide (show K = true ∧ SP = P ∧ SS = S by
        have hk : K = true := by rw [HOK.out]; simp [h0]
        exact ⟨hk, by rw [HP1.out, hk]; rfl, by rw [HS1.out, hk]; rfl⟩)
      have hb0 : ((l : Int) == 0) = false := by simp [h0]
      have hb1 : (l == 0) = false := by simp [h0]
      clear h0
      go_enter Try.func36, Try.ntmps36
      go_wp2_with (first | (go_at_call 69; refine H.out.mono ?_; rintro e w' ⟨rfl, q, rfl⟩) | (go_at_call 70; refine (HPT.out q).mono ?_; rintro e w2 ⟨p, s, rfl, hLp, hLs, hsep, hb2⟩; obtain ⟨A5, c5, rfl, hP5⟩ := hLp.formn (n := l) HL.out; obtain ⟨A6, c6, rfl, hP6⟩ := hLs.formn (n := l) HSL.out))
      go_ret3
      refine ⟨A5, c5, A6, c6, ?_, ?_, ?_, ?_, (bdrewN (Below.refl _ _) _).trans hb2⟩
      · rw [HF.out.1, HF.out.2.1, HF.out.2.2, HL.out, HSL.out]; rfl
      · rw [HF.out.2.1, HL.out]; exact hP5
      · rw [HF.out.2.2, HSL.out]; exact hP6
      · rw [HF.out.2.1, HF.out.2.2, HL.out, HSL.out]; exact hsep

end Go.Proofs.Ytlfffkjgepgcfaa.chance
