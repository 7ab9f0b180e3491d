/-
  DecksShared of both packages answers the same. Conditions: those of each theorem.
-/
import Derived.Test.YtfncmgaeecjacaaRank
import Derived.Test.YtfncmgaeecjacaaIsDeck
namespace Go.Proofs.Ytfncmgaeecjacaa.deck
open Go.RowKit
open base mem

def seedsOk (ys : List Int) : Bool := ys.all fun s => inB s 0 4294967295
def sharedOk (n : Int) (ys : List Int) (wk : Int) : Bool := inB n 1 20 && (decide (1 ≤ ys.length ∧ ys.length ≤ 16) && (inB wk 1 8 && seedsOk ys))
def shTo (n : Nat) (ys : List Int) : Nat → List Int
  | 0 => []
  | k + 1 => shTo n ys k ++ [rankW (drawn n (ys.getD k 0).toNat).1]
theorem shTo_len (n : Nat) (ys : List Int) (k : Nat) : (shTo n ys k).length = k := by induction k with | zero => rfl | succ k ih => simp [shTo, ih]
def sharedOut (n : Int) (ys : List Int) (wk : Int) : List Int := if sharedOk n ys wk then shTo n.toNat ys ys.length else []
theorem sharedOut_len (n : Int) (ys : List Int) (wk : Int) : (sharedOut n ys wk).length ≤ 1048576 := by
  unfold sharedOut
  split
  · next h =>
    simp only [sharedOk, Bool.and_eq_true] at h
    have := of_decide_eq_true h.2.1
    rw [shTo_len]
    omega
  · simp
theorem seeds_no {ys : List Int} {k : Nat} (hk : k < ys.length) (h : inB (ys.getD k 0) 0 4294967295 = false) : seedsOk ys = false := by
  unfold seedsOk
  rw [List.all_eq_false]
  refine ⟨ys[k], List.getElem_mem hk, ?_⟩
  have : ys.getD k 0 = ys[k] := by simp [List.getD, hk]
  rw [this] at h
  simp [h]
theorem seeds_yes {ys : List Int} (h : ∀ k, k < ys.length → inB (ys.getD k 0) 0 4294967295 = true) : seedsOk ys = true := by
  unfold seedsOk
  rw [List.all_eq_true]
  intro s hs
  obtain ⟨k, hk, rfl⟩ := List.mem_iff_getElem.1 hs
  have := h k hk
  simpa [List.getD, hk] using this

theorem areWorkers_any (n : Int) (w : World) : Calls Try.prog 85 #[.int .i64 n] w fun e w' => e = .returned (.bool (inB n 1 8)) ∧ w = w' := by
  go_enter Try.func85, Try.ntmps85
  go_wp2_with (go_at_call 69; refine (within_any _ _ _ _).mono ?_; rintro e w' ⟨rfl, rfl⟩)
  go_ret
  exact ⟨rfl, rfl⟩

set_option maxHeartbeats 2000000 in
theorem impl_DecksShared (n : Int) (A : Option Addr) (m c : Nat) (ys : List Int) (wk : Int) (w : World) (hS : Rd w w.heap.size A m ys) (hm : m ≤ 1048576) (_hmc : m ≤ c) :
    Calls Try.prog 59 #[.int .i64 n, .slice A m c, .int .i64 wk] w fun e w' => ∃ A2 c2, e = .returned (.tuple #[.slice A2 (sharedOut n ys wk).length c2, .bool (sharedOk n ys wk)]) ∧ Own w' w.heap.size A2 (sharedOut n ys wk).length c2 (sharedOut n ys wk) ∧ Below w.heap.size w w' := by
  have HL := hide hS.len
  cases h1 : inB n 1 20
  · have hK : sharedOk n ys wk = false := by simp [sharedOk, h1]
    have hO : sharedOut n ys wk = [] := by simp [sharedOut, hK]
    rw [hO, hK]
    clear hO hK hS
    go_enter Try.func59, Try.ntmps59
    go_wp2_with (first | (go_at_call 69; refine (within_any _ _ _ _).mono ?_; rintro e w' ⟨rfl, rfl⟩) | (go_at_call 85; refine (areWorkers_any _ _).mono ?_; rintro e w' ⟨rfl, rfl⟩) | (go_at_call 86; refine (isSeed_any _ _).mono ?_; rintro e w' ⟨rfl, rfl⟩))
    go_ret2
    exact ⟨none, 0, rfl, Own.nil _ _, Below.refl _ _⟩
  · by_cases h2 : 1 ≤ m
    · by_cases h3 : m ≤ 16
      · cases h4 : inB wk 1 8
        · have hK : sharedOk n ys wk = false := by simp [sharedOk, h4]
          have hO : sharedOut n ys wk = [] := by simp [sharedOut, hK]
          rw [hO, hK]
          clear hO hK hS
          go_enter Try.func59, Try.ntmps59
          go_wp2_with (first | (go_at_call 69; refine (within_any _ _ _ _).mono ?_; rintro e w' ⟨rfl, rfl⟩) | (go_at_call 85; refine (areWorkers_any _ _).mono ?_; rintro e w' ⟨rfl, rfl⟩) | (go_at_call 86; refine (isSeed_any _ _).mono ?_; rintro e w' ⟨rfl, rfl⟩))
          go_ret2
          exact ⟨none, 0, rfl, Own.nil _ _, Below.refl _ _⟩
        · obtain ⟨b1, b2⟩ := inB_yes h1
          obtain ⟨nn, rfl⟩ := Int.eq_ofNat_of_zero_le (show 0 ≤ n by omega)
          have HOK := hide (show sharedOk (nn : Int) ys wk = seedsOk ys by simp [sharedOk, h1, h4, HL.out, h2, h3])
          obtain ⟨OK, hOK⟩ := ex_eq (sharedOk (nn : Int) ys wk)
          obtain ⟨OUT, hOUT⟩ := ex_eq (sharedOut (nn : Int) ys wk)
          rw [hOK, hOUT]
          have HOUT := hide (show sharedOut (nn : Int) ys wk = if seedsOk ys then shTo nn ys m else [] by unfold sharedOut; rw [HOK.out, HL.out]; rfl)
          rw [hOK] at HOK
          rw [hOUT] at HOUT
          clear hOK hOUT
          go_enter Try.func59, Try.ntmps59
          go_wp2_with (first | (go_at_call 69; refine (within_any _ _ _ _).mono ?_; rintro e w' ⟨rfl, rfl⟩) | (go_at_call 85; refine (areWorkers_any _ _).mono ?_; rintro e w' ⟨rfl, rfl⟩) | (go_at_call 86; refine (isSeed_any _ _).mono ?_; rintro e w' ⟨rfl, rfl⟩))
          generalize hg : w.heap.size = g at *
          have HG := hide hg
          have hz : g ≤ w.heap.size := by omega
          clear hg
          go_loopw [8, 10, 11, 12, 13, 14, 36] (fun v _ _ _ _ _ i wr => ∃ k : Nat, k ≤ m ∧ i = .int .i64 k ∧ Lst wr g v (shTo nn ys k) ∧ Below g w wr ∧ Hid (∀ j, j < k → inB (ys.getD j 0) 0 4294967295 = true)) (fun _ _ _ _ _ _ i _ => m - (intOf i).toNat)
          case atStart => exact ⟨0, Nat.zero_le _, rfl, by have := Lst.new w hz; rw [HG.out] at this; exact this, (Below.refl _ _).alloc hz _, fun j hj => absurd hj (Nat.not_lt_zero j)⟩
          case round =>
            obtain ⟨k, hk, rfl, hown, hbr, hgood⟩ := hrel
            have hgr : g ≤ wr.heap.size := by have := hbr.size; have := HG.out; omega
            by_cases hlt : k < m
            · obtain ⟨b, o, rfl, hbB, hc⟩ := (hS.below hbr).at_ hlt
              have hkx : k < ys.length := by rw [HL.out]; exact hlt
              cases hin : inB (ys.getD k 0) 0 4294967295
              · have HF := hide (seeds_no hkx hin)
                obtain ⟨x, hx⟩ := ex_eq (ys.getD k 0)
                rw [hx] at hc hin
                clear hx hkx hS
                go_wp2_with (first | (go_at_call 69; refine (within_any _ _ _ _).mono ?_; rintro e w' ⟨rfl, rfl⟩) | (go_at_call 85; refine (areWorkers_any _ _).mono ?_; rintro e w' ⟨rfl, rfl⟩) | (go_at_call 86; refine (isSeed_any _ _).mono ?_; rintro e w' ⟨rfl, rfl⟩))
                go_ret2
                have e1 : OK = false := HOK.out.trans HF.out
                have e2 : OUT = [] := by rw [HOUT.out, HF.out]; rfl
                rw [e1, e2]
                exact ⟨none, 0, rfl, Own.nil _ _, by rw [HG.out]; exact hbr⟩
              · obtain ⟨hs1, hs2⟩ := inB_yes hin
                obtain ⟨sd, hsd⟩ := Int.eq_ofNat_of_zero_le hs1
                have HN := hide hin
                have hS1 := (show shTo nn ys (k + 1) = shTo nn ys k ++ [rankW (drawn nn (ys.getD k 0).toNat).1] from rfl)
                rw [hsd, Int.toNat_natCast] at hS1
                rw [hsd] at hc hin hs1 hs2
                have HD := hide (fun w => drawDeck_any nn sd w (by omega) (by omega) (by omega))
                have hdl : (drawn nn sd).1.length = nn := by unfold drawn; rw [drTo_len]
                have hrk : rankOk (drawn nn sd).1 = true := by unfold rankOk; rw [deck_drawn nn sd (by omega) (by omega), hdl]; simp; omega
                have hro : rankOut (drawn nn sd).1 = rankW (drawn nn sd).1 := by unfold rankOut; rw [hrk]; rfl
                have hrkc := fun A c w h hc => impl_RankOf A nn c (drawn nn sd).1 w h (by omega) hc
                rw [hro, hrk] at hrkc
                obtain ⟨xs, hxs⟩ := ex_eq (drawn nn sd).1
                obtain ⟨t, ht⟩ := ex_eq (drawn nn sd).2
                rw [hxs, ht] at HD
                rw [hxs] at hS1 hrkc
                obtain ⟨R, hR⟩ := ex_eq (rankW xs)
                rw [hR] at hS1 hrkc
                have HRK := hide hrkc
                have HS1 := hide hS1
                have HR := hide hR
                have hlk := shTo_len nn ys k
                clear hS1 hR hxs ht hrk hro hdl hs1 hsd hkx hS hrkc
                go_wp2_with (first | (go_at_call 69; refine (within_any _ _ _ _).mono ?_; rintro e w' ⟨rfl, rfl⟩) | (go_at_call 85; refine (areWorkers_any _ _).mono ?_; rintro e w' ⟨rfl, rfl⟩) | (go_at_call 86; refine (isSeed_any _ _).mono ?_; rintro e w' ⟨rfl, rfl⟩) | (go_at_call 87; refine (HD.out _).mono ?_; rintro e v5 ⟨A5, c5, rfl, ho5, hb5⟩) | (go_at_call 53; refine (HRK.out A5 c5 _ ho5.rd (Seg.of ho5).cap).mono ?_; rintro e v6 ⟨rfl, hb6⟩) | (at_builtin; refine wpList_app rfl (.tmp 54) (.tmp 56) rfl g _ (shTo nn ys k) [R] rfl ((hown.below (hb5.trans (hb6.mono hb5.size))).alloc _) (some ⟨v6.heap.size, 0, none⟩) 1 1 rfl (rd_one v6 R 2) (fun h => by cases h) (by omega) (by have := hb5.size; have := hb6.size; simp; omega) ?_; intro v7 w7 ho7 hg7 _))
                have hz5 := hb5.size
                have hz6 := hb6.size
                have hgr6 : g ≤ v6.heap.size := by omega
                have hb56 := hb5.trans (hb6.mono hb5.size)
                have hb7 : Below g wr w7 := (hb56.mono hgr).trans (((Below.refl _ _).alloc hgr6 _).trans (((hown.below hb56).alloc _).grown hg7 (by simp; omega)))
                have ho7' : Lst w7 g v7 (shTo nn ys (k + 1)) := by rw [HS1.out]; exact ho7
                clear hg7 ho7 hown hb56 ho5
                go_wp2
                go_roundw
                case rel => exact ⟨k + 1, by omega, by go_num, ho7', hbr.trans hb7, fun j hj => by rcases Nat.lt_succ_iff_lt_or_eq.1 hj with h | h; exact hgood.out j h; rw [h]; exact HN.out⟩
                case measure => simp only [intOf]; omega
            · have hkm : k = m := by omega
              subst hkm
              have HY := hide (seeds_yes (ys := ys) (fun j hj => hgood.out j (by rw [← HL.out]; exact hj)))
              have e1 : OK = true := HOK.out.trans HY.out
              have e2 : OUT = shTo nn ys k := by rw [HOUT.out, HY.out]; rfl
              obtain ⟨A4, c4, rfl, ho⟩ := hown.form
              clear hS
              go_wp2
              go_ret2
              rw [e1, e2, HG.out]
              exact ⟨A4, c4, rfl, ho, hbr⟩
      · have hK : sharedOk n ys wk = false := by simp [sharedOk, HL.out, h2, h3]
        have hO : sharedOut n ys wk = [] := by simp [sharedOut, hK]
        rw [hO, hK]
        clear hO hK hS
        go_enter Try.func59, Try.ntmps59
        go_wp2_with (first | (go_at_call 69; refine (within_any _ _ _ _).mono ?_; rintro e w' ⟨rfl, rfl⟩) | (go_at_call 85; refine (areWorkers_any _ _).mono ?_; rintro e w' ⟨rfl, rfl⟩) | (go_at_call 86; refine (isSeed_any _ _).mono ?_; rintro e w' ⟨rfl, rfl⟩))
        go_ret2
        exact ⟨none, 0, rfl, Own.nil _ _, Below.refl _ _⟩
    · have hK : sharedOk n ys wk = false := by simp [sharedOk, HL.out, h2]
      have hO : sharedOut n ys wk = [] := by simp [sharedOut, hK]
      rw [hO, hK]
      clear hO hK hS
      obtain rfl : m = 0 := by omega
      go_enter Try.func59, Try.ntmps59
      go_wp2_with (first | (go_at_call 69; refine (within_any _ _ _ _).mono ?_; rintro e w' ⟨rfl, rfl⟩) | (go_at_call 85; refine (areWorkers_any _ _).mono ?_; rintro e w' ⟨rfl, rfl⟩) | (go_at_call 86; refine (isSeed_any _ _).mono ?_; rintro e w' ⟨rfl, rfl⟩))
      go_ret2
      exact ⟨none, 0, rfl, Own.nil _ _, Below.refl _ _⟩
end Go.Proofs.Ytfncmgaeecjacaa.deck
