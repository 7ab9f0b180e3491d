/-
  How many decks there are, and the ranks of decks: both packages answer the same. Conditions: those of each theorem.
-/
import Derived.Test.YtfncmgaeecjacaaDeck
import Derived.Test.YtfncmgaeecjacaaDraw
namespace Go.Proofs.Ytfncmgaeecjacaa.deck
open Go.RowKit
open base mem

/-- the product as the machine has it: each step wrapped -/
def fw : Nat → Int
  | 0 => 1
  | j + 1 => wrap64 (fw j * ((j : Int) + 2))
def facW (n : Nat) : Int := fw (n - 1)

set_option maxHeartbeats 1000000 in
theorem factorial_any (n : Nat) (w : World) (hn : n ≤ 1000000) : Calls Try.prog 81 #[.int .i64 n] w fun e w' => e = .returned (.int .i64 (facW n)) ∧ w = w' := by
  obtain ⟨R, hR⟩ := ex_eq (facW n)
  rw [hR]
  have HR := hide hR
  clear hR
  go_enter Try.func81, Try.ntmps81
  go_wp2
  go_loop [3, 4] (fun o i => ∃ j : Nat, (j + 1 ≤ n ∨ j = 0) ∧ i = .int .i64 ((j + 2 : Nat) : Int) ∧ o = .int .i64 (fw j)) (fun _ i => n + 2 - (intOf i).toNat)
  case atStart => exact ⟨0, .inr rfl, rfl, rfl⟩
  case round =>
    obtain ⟨j, hj, rfl, rfl⟩ := hrel
    by_cases hlt : j + 2 ≤ n
    · have HS := hide (show fw (j + 1) = wrap64 (fw j * ((j : Int) + 2)) from rfl)
      obtain ⟨F, hF⟩ := ex_eq (fw j)
      rw [hF] at HS ⊢
      clear hF
      go_wp2
      go_round
      case rel => exact ⟨j + 1, by omega, by go_num, by rw [HS.out]⟩
      case measure => simp only [intOf]; omega
    · have hF : fw j = R := by rw [← HR.out]; unfold facW; congr 1; omega
      rw [hF]
      clear hF
      go_wp2
      go_ret
      exact ⟨rfl, rfl⟩

/-- how many of the m numbers behind place i are less than the one there -/
def lessTo (xs : List Int) (i : Nat) : Nat → Nat
  | 0 => 0
  | m + 1 => lessTo xs i m + (if xs.getD (i + 1 + m) 0 < xs.getD i 0 then 1 else 0)
theorem lessTo_le (xs : List Int) (i m : Nat) : lessTo xs i m ≤ m := by
  induction m with
  | zero => simp [lessTo]
  | succ m ih => unfold lessTo; split <;> omega
theorem less_yes {xs : List Int} {i m : Nat} (h : xs.getD (i + 1 + m) 0 < xs.getD i 0) : lessTo xs i (m + 1) = lessTo xs i m + 1 := by rw [lessTo, if_pos h]
theorem less_no {xs : List Int} {i m : Nat} (h : ¬ xs.getD (i + 1 + m) 0 < xs.getD i 0) : lessTo xs i (m + 1) = lessTo xs i m := by rw [lessTo, if_neg h]; rfl
def rkTo (xs : List Int) : Nat → Int
  | 0 => 0
  | k + 1 => wrap64 (rkTo xs k + wrap64 ((lessTo xs k (xs.length - 1 - k) : Nat) * facW (xs.length - 1 - k)))
def rankW (xs : List Int) : Int := rkTo xs xs.length
theorem rkTo_succ (xs : List Int) (n k : Nat) (h : xs.length = n) : rkTo xs (k + 1) = wrap64 (rkTo xs k + wrap64 ((lessTo xs k (n - 1 - k) : Nat) * facW (n - 1 - k))) := by rw [rkTo, h]

def rankOk (xs : List Int) : Bool := deckB xs && decide (xs.length ≤ 20)
def rankOut (xs : List Int) : Int := if rankOk xs then rankW xs else 0

set_option maxHeartbeats 2000000 in
theorem impl_RankOf (A : Option Addr) (n c : Nat) (xs : List Int) (w : World) (hR : Rd w w.heap.size A n xs) (hn : n ≤ 1048576) (hnc : n ≤ c) :
    Calls Try.prog 53 #[.slice A n c] w fun e w' => e = .returned (.tuple #[.int .i64 (rankOut xs), .bool (rankOk xs)]) ∧ Below w.heap.size w w' := by
  have hL1 := IsDeck_b A n c xs w hR (by omega) hnc
  cases hD : deckB xs
  · have hK : rankOk xs = false := by simp [rankOk, hD]
    have hO : rankOut xs = 0 := by simp [rankOut, hK]
    rw [hD] at hL1
    rw [hO, hK]
    have HL1 := hide hL1
    clear hL1 hO hK hD hR
    go_enter Try.func53, Try.ntmps53
    go_wp2_with fail
    refine HL1.out.mono ?_
    rintro e v1 ⟨rfl, hb⟩
    go_wp2
    go_ret2
    exact ⟨rfl, hb⟩
  · by_cases h2 : n ≤ 20
    · have hK : rankOk xs = true := by simp [rankOk, hD, hR.len, h2]
      have hO : rankOut xs = rankW xs := by simp [rankOut, hK]
      rw [hD] at hL1
      rw [hO, hK]
      have HL1 := hide hL1
      have hb2 : ¬ (20 : Int) < (n : Int) := by omega
      clear hL1 hO hK hD
      have HL := hide hR.len
      obtain ⟨RR, hRR⟩ := ex_eq (rankW xs)
      rw [hRR]
      have HRR := hide hRR
      clear hRR
      go_enter Try.func53, Try.ntmps53
      go_wp2_with fail
      refine HL1.out.mono ?_
      rintro e v1 ⟨rfl, hb⟩
      have hR1 := hR.below hb
      clear hR
      go_wp2
      go_loop [4, 5, 6, 7, 9, 20, 30] (fun r _ _ _ _ i _ => ∃ k : Nat, k ≤ n ∧ i = .int .i64 k ∧ r = .int .i64 (rkTo xs k)) (fun _ _ _ _ _ i _ => n - (intOf i).toNat)
      case atStart => exact ⟨0, Nat.zero_le _, rfl, rfl⟩
      case round =>
        obtain ⟨k, hk, rfl, rfl⟩ := hrel
        by_cases hlt : k < n
        · have HS := hide (rkTo_succ xs n k HL.out)
          obtain ⟨P, hP⟩ := ex_eq (rkTo xs k)
          rw [hP] at HS ⊢
          clear hP
          obtain ⟨b, o, rfl, hbB, hc⟩ := hR1.at_ hlt
          obtain ⟨y, hy⟩ := ex_eq (xs.getD k 0)
          rw [hy] at hc
          have HY := hide hy
          clear hy
          by_cases hck : c = k + 1
          · have hl1 : n ≤ k + 1 := by omega
            have hcn : n = c := by omega
            subst hcn
            clear hck
            go_wp2
            go_loop [7, 9, 30] (fun l _ kk => ∃ m : Nat, m ≤ n - 1 - k ∧ kk = .int .i64 m ∧ l = .int .i64 (lessTo xs k m)) (fun _ _ kk => n - (intOf kk).toNat)
            case atStart => exact ⟨0, Nat.zero_le _, rfl, rfl⟩
            case round =>
              obtain ⟨m, hm, rfl, rfl⟩ := hrel
              have hll := lessTo_le xs k m
              by_cases hmt : m < n - 1 - k
              · exact absurd hmt (by omega)
              · have hme : m = n - 1 - k := by omega
                subst hme
                obtain ⟨L, hLL⟩ := ex_eq (lessTo xs k (n - 1 - k))
                rw [hLL] at HS ⊢
                obtain ⟨F, hF⟩ := ex_eq (facW (n - 1 - k))
                have HP := hide (fun w => factorial_any (n - 1 - k) w (by omega))
                rw [hF] at HP HS
                clear hF hLL hll hR1
                have hix : ((n - 1 - k : Nat) : Int) = (n : Int) - 1 - (k : Int) := by omega
                have hix' : (n : Int) - ((k : Int) + 1) = (n : Int) - 1 - (k : Int) := by omega
                have HX := hide hix
                have hnl : ¬ ((n - 1 - k : Nat) < n - (k + 1)) := by omega
                clear hix hix' hmt hm
                go_wp2_with fail
                rw [← HX.out]
                refine (HP.out _).mono ?_
                rintro e w' ⟨rfl, rfl⟩
                go_wp2
                go_round
                case rel => exact ⟨k + 1, by omega, by go_num, by rw [HS.out]⟩
                case measure => simp only [intOf]; omega
          · go_wp2
            go_loop [7, 9, 30] (fun l _ kk => ∃ m : Nat, m ≤ n - 1 - k ∧ kk = .int .i64 m ∧ l = .int .i64 (lessTo xs k m)) (fun _ _ kk => n - (intOf kk).toNat)
            case atStart => exact ⟨0, Nat.zero_le _, rfl, rfl⟩
            case round =>
              obtain ⟨m, hm, rfl, rfl⟩ := hrel
              have hll := lessTo_le xs k m
              by_cases hmt : m < n - 1 - k
              · obtain ⟨b', o', hA', hbB', hc'⟩ := hR1.at_ (show k + 1 + m < n by omega)
                obtain ⟨rfl, rfl⟩ : b = b' ∧ o = o' := by simpa using hA'
                rw [show o + (k + 1 + m) = o + (k + 1) + m by omega] at hc'
                have hnl : m < n - (k + 1) := by omega
                clear hA' hR1
                by_cases hd : xs.getD (k + 1 + m) 0 < y
                · have HD := hide (less_yes (xs := xs) (i := k) (m := m) (by rw [HY.out]; exact hd))
                  generalize xs.getD (k + 1 + m) 0 = x at *
                  go_wp2
                  go_round
                  case rel => exact ⟨m + 1, by omega, by go_num, by rw [HD.out]; go_num⟩
                  case measure => simp only [intOf]; omega
                · have HD := hide (less_no (xs := xs) (i := k) (m := m) (by rw [HY.out]; exact hd))
                  generalize xs.getD (k + 1 + m) 0 = x at *
                  go_wp2
                  go_round
                  case rel => exact ⟨m + 1, by omega, by go_num, by rw [HD.out]⟩
                  case measure => simp only [intOf]; omega
              · have hme : m = n - 1 - k := by omega
                subst hme
                obtain ⟨L, hLL⟩ := ex_eq (lessTo xs k (n - 1 - k))
                rw [hLL] at HS ⊢
                obtain ⟨F, hF⟩ := ex_eq (facW (n - 1 - k))
                have HP := hide (fun w => factorial_any (n - 1 - k) w (by omega))
                rw [hF] at HP HS
                clear hF hLL hll hR1
                have hix : ((n - 1 - k : Nat) : Int) = (n : Int) - 1 - (k : Int) := by omega
                have hix' : (n : Int) - ((k : Int) + 1) = (n : Int) - 1 - (k : Int) := by omega
                have HX := hide hix
                have hnl : ¬ ((n - 1 - k : Nat) < n - (k + 1)) := by omega
                clear hix hix' hmt hm
                go_wp2_with fail
                rw [← HX.out]
                refine (HP.out _).mono ?_
                rintro e w' ⟨rfl, rfl⟩
                go_wp2
                go_round
                case rel => exact ⟨k + 1, by omega, by go_num, by rw [HS.out]⟩
                case measure => simp only [intOf]; omega
        · have hkn : k = n := by omega
          subst hkn
          have hF : rkTo xs k = RR := by rw [← HRR.out]; unfold rankW; rw [HL.out]
          rw [hF]
          go_wp2
          go_ret2
          exact ⟨rfl, hb⟩
    · have hK : rankOk xs = false := by simp [rankOk, hR.len, h2]
      have hO : rankOut xs = 0 := by simp [rankOut, hK]
      rw [hD] at hL1
      rw [hO, hK]
      have HL1 := hide hL1
      have hb2 : (20 : Int) < (n : Int) := by omega
      clear hL1 hO hK hD hR h2
      go_enter Try.func53, Try.ntmps53
      go_wp2_with fail
      refine HL1.out.mono ?_
      rintro e v1 ⟨rfl, hb⟩
      go_wp2
      go_ret2
      exact ⟨rfl, hb⟩
end Go.Proofs.Ytfncmgaeecjacaa.deck
