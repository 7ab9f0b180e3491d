/-
  HandsLeft of the program and of the reference return the same. Conditions: none.
-/
import Derived.Test.YtlfffkjgepgcfaaBase
namespace Go.Proofs.Ytlfffkjgepgcfaa.handsLeft
open Go.RowKit
open base

/-! ### no program in sight -/
def cost (small big ante seats : Int) (hand : Nat) : Int := if (hand : Int) % seats = 0 then ante + big else if (hand : Int) % seats = 1 then ante + small else ante
def run (small big ante seats : Int) : Nat → Nat → Int → Nat
  | 0, hand, _ => hand
  | f + 1, hand, stack => if stack < cost small big ante seats hand then hand else run small big ante seats f (hand + 1) (stack - cost small big ante seats hand)
def dist (big ante seats : Int) (hand : Nat) : Nat := if 0 < ante then 0 else if 0 < big then ((seats - hand % seats) % seats).toNat else ((seats + 1 - hand % seats) % seats).toNat
def meas (big ante seats : Int) (hand : Nat) (stack : Int) : Nat := 7 * stack.toNat + dist big ante seats hand

theorem dist_le (big ante seats : Int) (hand : Nat) (h1 : 2 ≤ seats) (h2 : seats ≤ 6) : dist big ante seats hand ≤ 6 := by
  unfold dist
  split
  · omega
  · split
    · have := Int.emod_lt_of_pos (seats - hand % seats) (show 0 < seats by omega); omega
    · have := Int.emod_lt_of_pos (seats + 1 - hand % seats) (show 0 < seats by omega); omega

theorem meas_lt (small big ante seats : Int) (hand : Nat) (stack : Int) (ha : 0 ≤ ante) (hb : 0 ≤ big) (hs : 0 ≤ small) (hn : small + big + ante ≠ 0) (h1 : 2 ≤ seats) (h2 : seats ≤ 6)
    (h0 : 0 ≤ stack) (hc : cost small big ante seats hand ≤ stack) : meas big ante seats (hand + 1) (stack - cost small big ante seats hand) < meas big ante seats hand stack := by
  have hd := dist_le big ante seats (hand + 1) h1 h2
  have key : 0 < cost small big ante seats hand ∨ (cost small big ante seats hand = 0 ∧ dist big ante seats (hand + 1) < dist big ante seats hand) := by
    unfold cost dist
    by_cases ha' : 0 < ante
    · left; split
      · omega
      · split <;> omega
    · have : ante = 0 := by omega
      subst this
      by_cases hb' : 0 < big
      · simp only [hb', ha', if_true, if_false]
        obtain rfl | rfl | rfl | rfl | rfl : seats = 2 ∨ seats = 3 ∨ seats = 4 ∨ seats = 5 ∨ seats = 6 := by omega
        all_goals
          split
          · omega
          · split <;> omega
      · have : big = 0 := by omega
        subst this
        simp only [ha', if_false]
        obtain rfl | rfl | rfl | rfl | rfl : seats = 2 ∨ seats = 3 ∨ seats = 4 ∨ seats = 5 ∨ seats = 6 := by omega
        all_goals
          split
          · omega
          · split <;> omega
  unfold meas
  generalize cost small big ante seats hand = c at *
  generalize dist big ante seats (hand + 1) = d' at *
  generalize dist big ante seats hand = d at *
  omega

theorem run_stop (small big ante seats : Int) (f hand : Nat) (stack : Int) (hf : 1 ≤ f) (h : stack < cost small big ante seats hand) : run small big ante seats f hand stack = hand := by
  obtain ⟨g, rfl⟩ : ∃ g, f = g + 1 := ⟨f - 1, by omega⟩
  rw [run, if_pos h]
theorem run_go (small big ante seats : Int) (g hand : Nat) (stack : Int) (h : cost small big ante seats hand ≤ stack) : run small big ante seats (g + 1) hand stack = run small big ante seats g (hand + 1) (stack - cost small big ante seats hand) := by
  rw [run, if_neg (by omega)]
theorem cost0 {small big ante seats : Int} {hand : Nat} (h : (hand : Int) % seats = 0) : cost small big ante seats hand = ante + big := by rw [cost, if_pos h]
theorem cost1 {small big ante seats : Int} {hand : Nat} (h : (hand : Int) % seats = 1) : cost small big ante seats hand = ante + small := by rw [cost, if_neg (by omega), if_pos h]
theorem cost2 {small big ante seats : Int} {hand : Nat} (h : (hand : Int) % seats ≠ 0) (h' : (hand : Int) % seats ≠ 1) : cost small big ante seats hand = ante := by rw [cost, if_neg h, if_neg h']

/-- what both functions answer -/
def okArgs (stack small big ante seats : Int) : Bool := inB stack 0 1000000 && (inB small 0 1000000 && (inB big 0 1000000 && (inB ante 0 1000000 && (inB seats 2 6 && !(small + big + ante == 0)))))
def answer (stack small big ante seats : Int) : Nat := if okArgs stack small big ante seats then run small big ante seats 7000007 0 stack else 0

set_option maxHeartbeats 1000000 in
theorem impl_any (stack small big ante seats : Int) (w : World) : Calls Try.prog 51 #[.int .i64 stack, .int .i64 small, .int .i64 big, .int .i64 ante, .int .i64 seats] w
    fun e w' => e = .returned (.tuple #[.int .i64 (answer stack small big ante seats), .bool (okArgs stack small big ante seats)]) ∧ w = w' := by
  cases t0 : inB stack 0 1000000
  · have hk : okArgs stack small big ante seats = false := by simp [okArgs, t0]
    have hz : answer stack small big ante seats = 0 := by simp [answer, hk]
    rw [hk, hz]
    clear hk hz
    go_enter Try.func51, Try.ntmps51
    go_wp2_with (first | (go_at_call 54; refine (within_any _ _ _ _).mono ?_; rintro e w' ⟨rfl, rfl⟩) | go_in)
    go_ret2
    exact ⟨rfl, rfl⟩
  · have b0 := inB_yes t0
    cases t1 : inB small 0 1000000
    · have hk : okArgs stack small big ante seats = false := by simp [okArgs, t0, t1]
      have hz : answer stack small big ante seats = 0 := by simp [answer, hk]
      rw [hk, hz]
      clear hk hz
      go_enter Try.func51, Try.ntmps51
      go_wp2_with (first | (go_at_call 54; refine (within_any _ _ _ _).mono ?_; rintro e w' ⟨rfl, rfl⟩) | go_in)
      go_ret2
      exact ⟨rfl, rfl⟩
    · have b1 := inB_yes t1
      cases t2 : inB big 0 1000000
      · have hk : okArgs stack small big ante seats = false := by simp [okArgs, t0, t1, t2]
        have hz : answer stack small big ante seats = 0 := by simp [answer, hk]
        rw [hk, hz]
        clear hk hz
        go_enter Try.func51, Try.ntmps51
        go_wp2_with (first | (go_at_call 54; refine (within_any _ _ _ _).mono ?_; rintro e w' ⟨rfl, rfl⟩) | go_in)
        go_ret2
        exact ⟨rfl, rfl⟩
      · have b2 := inB_yes t2
        cases t3 : inB ante 0 1000000
        · have hk : okArgs stack small big ante seats = false := by simp [okArgs, t0, t1, t2, t3]
          have hz : answer stack small big ante seats = 0 := by simp [answer, hk]
          rw [hk, hz]
          clear hk hz
          go_enter Try.func51, Try.ntmps51
          go_wp2_with (first | (go_at_call 54; refine (within_any _ _ _ _).mono ?_; rintro e w' ⟨rfl, rfl⟩) | go_in)
          go_ret2
          exact ⟨rfl, rfl⟩
        · have b3 := inB_yes t3
          by_cases hn : small + big + ante = 0
          · have hk : okArgs stack small big ante seats = false := by simp [okArgs, t0, t1, t2, t3, hn]
            have hz : answer stack small big ante seats = 0 := by simp [answer, hk]
            rw [hk, hz]
            clear hk hz
            have hn' : (small + big + ante == 0) = true := by rw [hn]; rfl
            clear hn
            go_enter Try.func51, Try.ntmps51
            go_wp2_with (first | (go_at_call 54; refine (within_any _ _ _ _).mono ?_; rintro e w' ⟨rfl, rfl⟩) | go_in)
            go_ret2
            exact ⟨rfl, rfl⟩
          · have hn' : (small + big + ante == 0) = false := by simpa using hn
            cases t4 : inB seats 2 6
            · have hk : okArgs stack small big ante seats = false := by simp [okArgs, t0, t1, t2, t3, hn', t4]
              have hz : answer stack small big ante seats = 0 := by simp [answer, hk]
              rw [hk, hz]
              clear hk hz
              go_enter Try.func51, Try.ntmps51
              go_wp2_with (first | (go_at_call 54; refine (within_any _ _ _ _).mono ?_; rintro e w' ⟨rfl, rfl⟩) | go_in)
              go_ret2
              exact ⟨rfl, rfl⟩
            · have b4 := inB_yes t4
              · have hk : okArgs stack small big ante seats = true := by simp [okArgs, t0, t1, t2, t3, t4, hn]
                have hz : answer stack small big ante seats = run small big ante seats 7000007 0 stack := by simp [answer, hk]
                rw [hk, hz]
                clear hk hz
                generalize hR : run small big ante seats 7000007 0 stack = R
                have hn' : (small + big + ante == 0) = false := by simpa using hn
                have hm : meas big ante seats 0 stack < 7000007 := by have := dist_le big ante seats 0 b4.1 b4.2; unfold meas; omega
                obtain ⟨b00, b01⟩ := b0
                obtain ⟨b10, b11⟩ := b1
                obtain ⟨b20, b21⟩ := b2
                obtain ⟨b30, b31⟩ := b3
                obtain ⟨b40, b41⟩ := b4
                have HR := hide hR
                have HM := hide hm
                have HN := hide hn
                clear hR hm hn
                go_enter Try.func51, Try.ntmps51
                go_wp2_with (first | (go_at_call 54; refine (within_any _ _ _ _).mono ?_; rintro e w' ⟨rfl, rfl⟩) | go_in)
                go_loop [0, 12] (fun s h => ∃ (hand g : Nat) (st : Int), s = .int .i64 st ∧ h = .int .i64 hand ∧ 0 ≤ st ∧ st ≤ 1000000 ∧ hand + g ≤ 7000007 ∧ Hid (meas big ante seats hand st < g) ∧ Hid (run small big ante seats g hand st = R)) (fun _ h => 7000007 - (intOf h).toNat)
                case atStart => exact ⟨0, 7000007, stack, rfl, rfl, b00, b01, by omega, HM, HR⟩
                case round =>
                  obtain ⟨hand, g, st, rfl, rfl, c1, c2, c3, hm, hr⟩ := hrel
                  obtain ⟨g, rfl⟩ : ∃ g', g = g' + 1 := ⟨g - 1, by have := hm.out; omega⟩
                  have hlt : hand < 7000007 := by omega
                  clear HM HR
                  by_cases r0 : (hand : Int) % seats = 0
                  · have q0 : ((hand : Int) % seats == 0) = true := by rw [r0]; rfl
                    have q1 : ((hand : Int) % seats == 1) = false := by rw [r0]; rfl
                    have HC := hide (cost0 (small := small) (big := big) (ante := ante) r0)
                    clear r0
                    by_cases hs : st < ante + big
                    · have HF := hide (run_stop small big ante seats (g + 1) hand st (by omega) (by rw [HC.out]; exact hs))
                      go_wp2
                      go_ret2
                      exact ⟨by rw [← hr.out, HF.out]; rfl, rfl⟩
                    · have hs' : ante + big ≤ st := by omega
                      clear hs
                      have HF := hide (run_go small big ante seats g hand st (by rw [HC.out]; exact hs'))
                      have HL := hide (meas_lt small big ante seats hand st b30 b20 b10 HN.out b40 b41 c1 (by rw [HC.out]; exact hs'))
                      go_wp2
                      go_round
                      case rel => exact ⟨hand + 1, g, st - (ante + big), by go_num, by go_num, by omega, by omega, by omega, hide (by have := hm.out; have := HL.out; rw [HC.out] at this; omega), hide (by rw [← hr.out, HF.out, HC.out])⟩
                      case measure => simp only [intOf]; omega
                  · by_cases r1 : (hand : Int) % seats = 1
                    · have q0 : ((hand : Int) % seats == 0) = false := by rw [r1]; rfl
                      have q1 : ((hand : Int) % seats == 1) = true := by rw [r1]; rfl
                      have HC := hide (cost1 (small := small) (big := big) (ante := ante) r1)
                      clear r0 r1
                      by_cases hs : st < ante + small
                      · have HF := hide (run_stop small big ante seats (g + 1) hand st (by omega) (by rw [HC.out]; exact hs))
                        go_wp2
                        go_ret2
                        exact ⟨by rw [← hr.out, HF.out]; rfl, rfl⟩
                      · have hs' : ante + small ≤ st := by omega
                        clear hs
                        have HF := hide (run_go small big ante seats g hand st (by rw [HC.out]; exact hs'))
                        have HL := hide (meas_lt small big ante seats hand st b30 b20 b10 HN.out b40 b41 c1 (by rw [HC.out]; exact hs'))
                        go_wp2
                        go_round
                        case rel => exact ⟨hand + 1, g, st - (ante + small), by go_num, by go_num, by omega, by omega, by omega, hide (by have := hm.out; have := HL.out; rw [HC.out] at this; omega), hide (by rw [← hr.out, HF.out, HC.out])⟩
                        case measure => simp only [intOf]; omega
                    · have q0 : ((hand : Int) % seats == 0) = false := by simpa using r0
                      have q1 : ((hand : Int) % seats == 1) = false := by simpa using r1
                      have HC := hide (cost2 (small := small) (big := big) (ante := ante) r0 r1)
                      clear r0 r1
                      by_cases hs : st < ante
                      · have HF := hide (run_stop small big ante seats (g + 1) hand st (by omega) (by rw [HC.out]; exact hs))
                        go_wp2
                        go_ret2
                        exact ⟨by rw [← hr.out, HF.out]; rfl, rfl⟩
                      · have hs' : ante ≤ st := by omega
                        clear hs
                        have HF := hide (run_go small big ante seats g hand st (by rw [HC.out]; exact hs'))
                        have HL := hide (meas_lt small big ante seats hand st b30 b20 b10 HN.out b40 b41 c1 (by rw [HC.out]; exact hs'))
                        go_wp2
                        go_round
                        case rel => exact ⟨hand + 1, g, st - (ante), by go_num, by go_num, by omega, by omega, by omega, hide (by have := hm.out; have := HL.out; rw [HC.out] at this; omega), hide (by rw [← hr.out, HF.out, HC.out])⟩
                        case measure => simp only [intOf]; omega

set_option maxHeartbeats 1000000 in
theorem spec_any (stack small big ante seats : Int) (w : World) : Calls Try.prog 52 #[.int .i64 stack, .int .i64 small, .int .i64 big, .int .i64 ante, .int .i64 seats] w
    fun e w' => e = .returned (.tuple #[.int .i64 (answer stack small big ante seats), .bool (okArgs stack small big ante seats)]) ∧ w = w' := by
  cases t0 : inB stack 0 1000000
  · have hk : okArgs stack small big ante seats = false := by simp [okArgs, t0]
    have hz : answer stack small big ante seats = 0 := by simp [answer, hk]
    rw [hk, hz]
    clear hk hz
    go_enter Try.func52, Try.ntmps52
    go_wp2_with (first | (go_at_call 53; refine (l00In_any _ _ _ _).mono ?_; rintro e w' ⟨rfl, rfl⟩) | go_in)
    go_ret2
    exact ⟨rfl, rfl⟩
  · have b0 := inB_yes t0
    cases t1 : inB small 0 1000000
    · have hk : okArgs stack small big ante seats = false := by simp [okArgs, t0, t1]
      have hz : answer stack small big ante seats = 0 := by simp [answer, hk]
      rw [hk, hz]
      clear hk hz
      go_enter Try.func52, Try.ntmps52
      go_wp2_with (first | (go_at_call 53; refine (l00In_any _ _ _ _).mono ?_; rintro e w' ⟨rfl, rfl⟩) | go_in)
      go_ret2
      exact ⟨rfl, rfl⟩
    · have b1 := inB_yes t1
      cases t2 : inB big 0 1000000
      · have hk : okArgs stack small big ante seats = false := by simp [okArgs, t0, t1, t2]
        have hz : answer stack small big ante seats = 0 := by simp [answer, hk]
        rw [hk, hz]
        clear hk hz
        go_enter Try.func52, Try.ntmps52
        go_wp2_with (first | (go_at_call 53; refine (l00In_any _ _ _ _).mono ?_; rintro e w' ⟨rfl, rfl⟩) | go_in)
        go_ret2
        exact ⟨rfl, rfl⟩
      · have b2 := inB_yes t2
        cases t3 : inB ante 0 1000000
        · have hk : okArgs stack small big ante seats = false := by simp [okArgs, t0, t1, t2, t3]
          have hz : answer stack small big ante seats = 0 := by simp [answer, hk]
          rw [hk, hz]
          clear hk hz
          go_enter Try.func52, Try.ntmps52
          go_wp2_with (first | (go_at_call 53; refine (l00In_any _ _ _ _).mono ?_; rintro e w' ⟨rfl, rfl⟩) | go_in)
          go_ret2
          exact ⟨rfl, rfl⟩
        · have b3 := inB_yes t3
          cases t4 : inB seats 2 6
          · have hk : okArgs stack small big ante seats = false := by simp [okArgs, t0, t1, t2, t3, t4]
            have hz : answer stack small big ante seats = 0 := by simp [answer, hk]
            rw [hk, hz]
            clear hk hz
            go_enter Try.func52, Try.ntmps52
            go_wp2_with (first | (go_at_call 53; refine (l00In_any _ _ _ _).mono ?_; rintro e w' ⟨rfl, rfl⟩) | go_in)
            go_ret2
            exact ⟨rfl, rfl⟩
          · have b4 := inB_yes t4
            by_cases hn : small + big + ante = 0
            · have hk : okArgs stack small big ante seats = false := by simp [okArgs, t0, t1, t2, t3, t4, hn]
              have hz : answer stack small big ante seats = 0 := by simp [answer, hk]
              rw [hk, hz]
              clear hk hz
              have hn' : (small + big + ante == 0) = true := by rw [hn]; rfl
              clear hn
              go_enter Try.func52, Try.ntmps52
              go_wp2_with (first | (go_at_call 53; refine (l00In_any _ _ _ _).mono ?_; rintro e w' ⟨rfl, rfl⟩) | go_in)
              go_ret2
              exact ⟨rfl, rfl⟩
            · have hk : okArgs stack small big ante seats = true := by simp [okArgs, t0, t1, t2, t3, t4, hn]
              have hz : answer stack small big ante seats = run small big ante seats 7000007 0 stack := by simp [answer, hk]
              rw [hk, hz]
              clear hk hz
              generalize hR : run small big ante seats 7000007 0 stack = R
              have hn' : (small + big + ante == 0) = false := by simpa using hn
              have hm : meas big ante seats 0 stack < 7000007 := by have := dist_le big ante seats 0 b4.1 b4.2; unfold meas; omega
              obtain ⟨b00, b01⟩ := b0
              obtain ⟨b10, b11⟩ := b1
              obtain ⟨b20, b21⟩ := b2
              obtain ⟨b30, b31⟩ := b3
              obtain ⟨b40, b41⟩ := b4
              have HR := hide hR
              have HM := hide hm
              have HN := hide hn
              clear hR hm hn
              go_enter Try.func52, Try.ntmps52
              go_wp2_with (first | (go_at_call 53; refine (l00In_any _ _ _ _).mono ?_; rintro e w' ⟨rfl, rfl⟩) | go_in)
              go_loop [0, 12] (fun s h => ∃ (hand g : Nat) (st : Int), s = .int .i64 st ∧ h = .int .i64 hand ∧ 0 ≤ st ∧ st ≤ 1000000 ∧ hand + g ≤ 7000007 ∧ Hid (meas big ante seats hand st < g) ∧ Hid (run small big ante seats g hand st = R)) (fun _ h => 7000007 - (intOf h).toNat)
              case atStart => exact ⟨0, 7000007, stack, rfl, rfl, b00, b01, by omega, HM, HR⟩
              case round =>
                obtain ⟨hand, g, st, rfl, rfl, c1, c2, c3, hm, hr⟩ := hrel
                obtain ⟨g, rfl⟩ : ∃ g', g = g' + 1 := ⟨g - 1, by have := hm.out; omega⟩
                have hlt : hand < 7000007 := by omega
                clear HM HR
                by_cases r0 : (hand : Int) % seats = 0
                · have q0 : ((hand : Int) % seats == 0) = true := by rw [r0]; rfl
                  have q1 : ((hand : Int) % seats == 1) = false := by rw [r0]; rfl
                  have HC := hide (cost0 (small := small) (big := big) (ante := ante) r0)
                  clear r0
                  by_cases hs : st < ante + big
                  · have HF := hide (run_stop small big ante seats (g + 1) hand st (by omega) (by rw [HC.out]; exact hs))
                    go_wp2
                    go_ret2
                    exact ⟨by rw [← hr.out, HF.out]; rfl, rfl⟩
                  · have hs' : ante + big ≤ st := by omega
                    clear hs
                    have HF := hide (run_go small big ante seats g hand st (by rw [HC.out]; exact hs'))
                    have HL := hide (meas_lt small big ante seats hand st b30 b20 b10 HN.out b40 b41 c1 (by rw [HC.out]; exact hs'))
                    go_wp2
                    go_round
                    case rel => exact ⟨hand + 1, g, st - (ante + big), by go_num, by go_num, by omega, by omega, by omega, hide (by have := hm.out; have := HL.out; rw [HC.out] at this; omega), hide (by rw [← hr.out, HF.out, HC.out])⟩
                    case measure => simp only [intOf]; omega
                · by_cases r1 : (hand : Int) % seats = 1
                  · have q0 : ((hand : Int) % seats == 0) = false := by rw [r1]; rfl
                    have q1 : ((hand : Int) % seats == 1) = true := by rw [r1]; rfl
                    have HC := hide (cost1 (small := small) (big := big) (ante := ante) r1)
                    clear r0 r1
                    by_cases hs : st < ante + small
                    · have HF := hide (run_stop small big ante seats (g + 1) hand st (by omega) (by rw [HC.out]; exact hs))
                      go_wp2
                      go_ret2
                      exact ⟨by rw [← hr.out, HF.out]; rfl, rfl⟩
                    · have hs' : ante + small ≤ st := by omega
                      clear hs
                      have HF := hide (run_go small big ante seats g hand st (by rw [HC.out]; exact hs'))
                      have HL := hide (meas_lt small big ante seats hand st b30 b20 b10 HN.out b40 b41 c1 (by rw [HC.out]; exact hs'))
                      go_wp2
                      go_round
                      case rel => exact ⟨hand + 1, g, st - (ante + small), by go_num, by go_num, by omega, by omega, by omega, hide (by have := hm.out; have := HL.out; rw [HC.out] at this; omega), hide (by rw [← hr.out, HF.out, HC.out])⟩
                      case measure => simp only [intOf]; omega
                  · have q0 : ((hand : Int) % seats == 0) = false := by simpa using r0
                    have q1 : ((hand : Int) % seats == 1) = false := by simpa using r1
                    have HC := hide (cost2 (small := small) (big := big) (ante := ante) r0 r1)
                    clear r0 r1
                    by_cases hs : st < ante
                    · have HF := hide (run_stop small big ante seats (g + 1) hand st (by omega) (by rw [HC.out]; exact hs))
                      go_wp2
                      go_ret2
                      exact ⟨by rw [← hr.out, HF.out]; rfl, rfl⟩
                    · have hs' : ante ≤ st := by omega
                      clear hs
                      have HF := hide (run_go small big ante seats g hand st (by rw [HC.out]; exact hs'))
                      have HL := hide (meas_lt small big ante seats hand st b30 b20 b10 HN.out b40 b41 c1 (by rw [HC.out]; exact hs'))
                      go_wp2
                      go_round
                      case rel => exact ⟨hand + 1, g, st - (ante), by go_num, by go_num, by omega, by omega, by omega, hide (by have := hm.out; have := HL.out; rw [HC.out] at this; omega), hide (by rw [← hr.out, HF.out, HC.out])⟩
                      case measure => simp only [intOf]; omega

end Go.Proofs.Ytlfffkjgepgcfaa.handsLeft
