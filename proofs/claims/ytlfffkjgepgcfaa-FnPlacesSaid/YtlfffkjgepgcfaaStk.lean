/-
  Stakes, and who has given up: both packages look alike. Conditions: those of each theorem.
-/
import Derived.Test.YtlfffkjgepgcfaaApp
import Derived.Test.YtlfffkjgepgcfaaMemB
import Derived.Deep.DeepCutAuto
namespace Go.Proofs.Ytlfffkjgepgcfaa.chance
open Go.RowKit
open base mem

/-! ### no program in sight -/
def badB (hi lo : Int) (xs : List Int) : Bool := xs.any fun x => !inB x lo hi
theorem bad_no {hi lo : Int} {xs : List Int} (h : ∀ j, j < xs.length → inB (xs.getD j 0) lo hi = true) : badB hi lo xs = false := by
  unfold badB
  rw [List.any_eq_false]
  intro p hp
  obtain ⟨j, hj, rfl⟩ := List.mem_iff_getElem.1 hp
  have := h j hj
  have e : xs.getD j 0 = xs[j] := by simp [List.getD, hj]
  rw [e] at this
  rw [this]
  decide
theorem bad_yes {hi lo : Int} {xs : List Int} {j : Nat} (hj : j < xs.length) (h : inB (xs.getD j 0) lo hi = false) : badB hi lo xs = true := by
  unfold badB
  rw [List.any_eq_true]
  have e : xs.getD j 0 = xs[j] := by simp [List.getD, hj]
  rw [e] at h
  exact ⟨xs[j], List.getElem_mem hj, by rw [h]; rfl⟩
theorem bad_at {hi lo : Int} {xs : List Int} (h : badB hi lo xs = false) {j : Nat} (hj : j < xs.length) : lo ≤ xs.getD j 0 ∧ xs.getD j 0 ≤ hi := by
  unfold badB at h
  rw [List.any_eq_false] at h
  have := h xs[j] (List.getElem_mem hj)
  have e : xs.getD j 0 = xs[j] := by simp [List.getD, hj]
  rw [e]
  exact inB_yes (by simpa using this)
def hasF (ob : List Bool) : Bool := ob.any fun b => !b
theorem hasF_no {ob : List Bool} (h : ∀ j, j < ob.length → ob.getD j false = true) : hasF ob = false := by
  unfold hasF
  rw [List.any_eq_false]
  intro p hp
  obtain ⟨j, hj, rfl⟩ := List.mem_iff_getElem.1 hp
  have := h j hj
  have e : ob.getD j false = ob[j] := by simp [List.getD, hj]
  rw [e] at this
  rw [this]
  decide
theorem hasF_yes {ob : List Bool} {j : Nat} (hj : j < ob.length) (h : ob.getD j false = false) : hasF ob = true := by
  unfold hasF
  rw [List.any_eq_true]
  have e : ob.getD j false = ob[j] := by simp [List.getD, hj]
  rw [e] at h
  exact ⟨ob[j], List.getElem_mem hj, by rw [h]; rfl⟩
def stOk (xs : List Int) (ob : List Bool) : Bool := decide (1 ≤ xs.length ∧ xs.length ≤ 6) && (decide (ob.length = xs.length) && (hasF ob && !badB 1000000 0 xs))
/-- what an index tells of a test -/
def ixB (b : Bool) (i : Int) : Prop := (b = true ∧ 0 ≤ i ∧ i < 9223372036854775808) ∨ (b = false ∧ i = -1)
/-! ### the program -/

theorem stk1_any (x : Int) (w : World) : Calls Try.prog 90 #[.int .i64 x] w fun e w' => e = .returned (.bool (!inB x 0 1000000)) ∧ w = w' := by
  obtain ⟨E, hE⟩ := ex_eq (inB x 0 1000000)
  rw [hE]
  have HE := hide hE
  clear hE
  go_enter Try.func90, Try.ntmps90
  go_wp2_with (go_at_call 54; refine (within_any _ _ _ _).mono ?_; rintro e w' ⟨rfl, rfl⟩; rw [HE.out])
  go_ret
  exact ⟨rfl, rfl⟩
set_option maxHeartbeats 1000000 in
theorem stkI_any (A : Option Addr) (n c : Nat) (xs : List Int) (B : Nat) (w : World) (hR : Rd w B A n xs) (hn : n ≤ 1048576) :
    Calls Try.prog 86 #[.slice A n c, .func (.func 90) #[] #[]] w fun e w' => (∃ i, e = .returned (.int .i64 i) ∧ ixB (badB 1000000 0 xs) i) ∧ w = w' := by
  have HL := hide hR.len
  go_enter Try.func86, Try.ntmps86
  go_wp2
  go_loop [8] (fun i => ∃ k : Nat, k ≤ n ∧ i = .int .i64 k ∧ Hid (∀ j, j < k → inB (xs.getD j 0) 0 1000000 = true)) (fun i => n - (intOf i).toNat)
  case atStart => exact ⟨0, Nat.zero_le _, rfl, fun j hj => absurd hj (Nat.not_lt_zero j)⟩
  case round =>
    obtain ⟨k, hk, rfl, hno⟩ := hrel
    by_cases hlt : k < n
    · have hkx : k < xs.length := by rw [HL.out]; exact hlt
      obtain ⟨b, o, rfl, hbB, hc⟩ := hR.at_ hlt
      cases hh : inB (xs.getD k 0) 0 1000000
      · have HF := hide (bad_yes hkx hh)
        obtain ⟨x, hx⟩ := ex_eq (xs.getD k 0)
        rw [hx] at hc hh
        have HU := hide (stk1_any x w)
        rw [hh] at HU
        clear hkx hR hh hx
        go_wp2_with (go_at_call 90; refine HU.out.mono ?_; rintro e w' ⟨rfl, rfl⟩)
        go_ret
        exact ⟨⟨_, rfl, .inl ⟨HF.out, by omega, by omega⟩⟩, rfl⟩
      · have HN := hide hh
        obtain ⟨x, hx⟩ := ex_eq (xs.getD k 0)
        rw [hx] at hc hh
        have HU := hide (stk1_any x w)
        rw [hh] at HU
        clear hkx hR hh hx
        go_wp2_with (go_at_call 90; refine HU.out.mono ?_; rintro e w' ⟨rfl, rfl⟩)
        go_round
        case rel => exact ⟨k + 1, by omega, by go_num, fun j hj => by rcases Nat.lt_succ_iff_lt_or_eq.1 hj with h | h; exact hno.out j h; rw [h]; exact HN.out⟩
        case measure => simp [intOf]; omega
    · have hkm : k = n := by omega
      have HN := hide (bad_no (xs := xs) (lo := 0) (hi := 1000000) (fun j hj => hno.out j (by rw [hkm, ← HL.out]; exact hj)))
      clear hkm hR
      go_wp2
      go_ret
      exact ⟨⟨_, rfl, .inr ⟨HN.out, rfl⟩⟩, rfl⟩
theorem stkC_any (A : Option Addr) (n c : Nat) (xs : List Int) (B : Nat) (w : World) (hR : Rd w B A n xs) (hn : n ≤ 1048576) :
    Calls Try.prog 67 #[.slice A n c, .func (.func 90) #[] #[]] w fun e w' => e = .returned (.bool (badB 1000000 0 xs)) ∧ w = w' := by
  have HX := hide (stkI_any A n c xs B w hR hn)
  obtain ⟨E, hE⟩ := ex_eq (badB 1000000 0 xs)
  rw [hE]
  have HE := hide hE
  clear hR hE
  go_enter Try.func67, Try.ntmps67
  go_wp2_with fail
  refine HX.out.mono ?_
  rintro e w' ⟨⟨i, rfl, hi⟩, rfl⟩
  rcases hi with ⟨h1, h2, h3⟩ | ⟨h1, rfl⟩
  · have HF := hide (HE.out.symm.trans h1)
    have hd : decide (0 ≤ i) = true := by simpa using h2
    clear h1 HX
    go_wp2
    go_ret
    exact ⟨by rw [HF.out]; rfl, rfl⟩
  · have HF := hide (HE.out.symm.trans h1)
    clear h1 HX
    go_wp2
    go_ret
    exact ⟨by rw [HF.out]; rfl, rfl⟩

set_option maxHeartbeats 1000000 in
theorem IndexB_any (A : Option Addr) (n c : Nat) (ob : List Bool) (B : Nat) (w : World) (hR : RdB w B A n ob) (hn : n ≤ 1048576) :
    Calls Try.prog 97 #[.slice A n c, .bool false] w fun e w' => (∃ i, e = .returned (.int .i64 i) ∧ ixB (hasF ob) i) ∧ w = w' := by
  have HL := hide hR.len
  go_enter Try.func97, Try.ntmps97
  go_wp2
  go_loop [8] (fun i => ∃ k : Nat, k ≤ n ∧ i = .int .i64 k ∧ Hid (∀ j, j < k → ob.getD j false = true)) (fun i => n - (intOf i).toNat)
  case atStart => exact ⟨0, Nat.zero_le _, rfl, fun j hj => absurd hj (Nat.not_lt_zero j)⟩
  case round =>
    obtain ⟨k, hk, rfl, hno⟩ := hrel
    by_cases hlt : k < n
    · have hkx : k < ob.length := by rw [HL.out]; exact hlt
      obtain ⟨b, o, rfl, hbB, hc⟩ := hR.at_ hlt
      cases hh : ob.getD k false
      · have HF := hide (hasF_yes hkx hh)
        rw [hh] at hc
        clear hkx hR hh
        go_wp2
        go_ret
        exact ⟨⟨_, rfl, .inl ⟨HF.out, by omega, by omega⟩⟩, rfl⟩
      · have HN := hide hh
        rw [hh] at hc
        clear hkx hR hh
        go_wp2
        go_round
        case rel => exact ⟨k + 1, by omega, by go_num, fun j hj => by rcases Nat.lt_succ_iff_lt_or_eq.1 hj with h | h; exact hno.out j h; rw [h]; exact HN.out⟩
        case measure => simp [intOf]; omega
    · have hkm : k = n := by omega
      have HN := hide (hasF_no (ob := ob) (fun j hj => hno.out j (by rw [hkm, ← HL.out]; exact hj)))
      clear hkm hR
      go_wp2
      go_ret
      exact ⟨⟨_, rfl, .inr ⟨HN.out, rfl⟩⟩, rfl⟩
theorem ContainsB_any (A : Option Addr) (n c : Nat) (ob : List Bool) (B : Nat) (w : World) (hR : RdB w B A n ob) (hn : n ≤ 1048576) :
    Calls Try.prog 89 #[.slice A n c, .bool false] w fun e w' => e = .returned (.bool (hasF ob)) ∧ w = w' := by
  have HX := hide (IndexB_any A n c ob B w hR hn)
  obtain ⟨E, hE⟩ := ex_eq (hasF ob)
  rw [hE]
  have HE := hide hE
  clear hR hE
  go_enter Try.func89, Try.ntmps89
  go_wp2_with fail
  refine HX.out.mono ?_
  rintro e w' ⟨⟨i, rfl, hi⟩, rfl⟩
  rcases hi with ⟨h1, h2, h3⟩ | ⟨h1, rfl⟩
  · have HF := hide (HE.out.symm.trans h1)
    have hd : decide (0 ≤ i) = true := by simpa using h2
    clear h1 HX
    go_wp2
    go_ret
    exact ⟨by rw [HF.out]; rfl, rfl⟩
  · have HF := hide (HE.out.symm.trans h1)
    clear h1 HX
    go_wp2
    go_ret
    exact ⟨by rw [HF.out]; rfl, rfl⟩
set_option maxHeartbeats 1000000 in
theorem areStakes_any (A : Option Addr) (n c : Nat) (xs : List Int) (A2 : Option Addr) (m c2 : Nat) (ob : List Bool) (B : Nat) (w : World) (hR : Rd w B A n xs) (hS : RdB w B A2 m ob) (hn : n ≤ 1048576) (hm : m ≤ 1048576) :
    Calls Try.prog 71 #[.slice A n c, .slice A2 m c2] w fun e w' => e = .returned (.bool (stOk xs ob)) ∧ w = w' := by
  have H1 := hide (ContainsB_any A2 m c2 ob B w hS hm)
  have H2 := hide (stkC_any A n c xs B w hR hn)
  have HO := hide (show stOk xs ob = (decide (1 ≤ n ∧ n ≤ 6) && (decide (m = n) && (hasF ob && !badB 1000000 0 xs))) by unfold stOk; rw [hR.len, hS.len])
  obtain ⟨E, hE⟩ := ex_eq (stOk xs ob)
  rw [hE] at HO ⊢
  obtain ⟨F, hF⟩ := ex_eq (hasF ob)
  obtain ⟨D, hD⟩ := ex_eq (badB 1000000 0 xs)
  rw [hF, hD] at HO
  rw [hF] at H1
  rw [hD] at H2
  clear hE hF hD hR hS
  by_cases h1 : 1 ≤ n
  rotate_left
  · have HF := hide (show E = false by rw [HO.out]; simp [h1])
    go_enter Try.func71, Try.ntmps71
    go_wp2_with fail
    go_ret
    exact ⟨by rw [HF.out]; rfl, rfl⟩
  by_cases h6 : n ≤ 6
  rotate_left
  · have HF := hide (show E = false by rw [HO.out]; simp [h6])
    go_enter Try.func71, Try.ntmps71
    go_wp2_with fail
    go_ret
    exact ⟨by rw [HF.out]; rfl, rfl⟩
  by_cases hmn : m = n
  rotate_left
  · have HF := hide (show E = false by rw [HO.out]; simp [hmn])
    have hb : ((m : Int) == (n : Int)) = false := by simp; omega
    have hb2 : (m == n) = false := by simp [hmn]
    clear hmn
    go_enter Try.func71, Try.ntmps71
    go_wp2_with fail
    go_ret
    exact ⟨by rw [HF.out]; rfl, rfl⟩
  subst hmn
  cases F
  · have HF := hide (show E = false by rw [HO.out]; simp)
    go_enter Try.func71, Try.ntmps71
    go_wp2_with (go_at_call 89; refine H1.out.mono ?_; rintro e w' ⟨rfl, rfl⟩)
    go_ret
    exact ⟨by rw [HF.out]; rfl, rfl⟩
  · have HF := hide (show E = !D by rw [HO.out]; simp [h1, h6])
    go_enter Try.func71, Try.ntmps71
    go_wp2_with (first | (go_at_call 89; refine H1.out.mono ?_; rintro e w' ⟨rfl, rfl⟩) | (go_at_call 67; refine H2.out.mono ?_; rintro e w' ⟨rfl, rfl⟩))
    go_ret
    exact ⟨by rw [HF.out]; rfl, rfl⟩

set_option maxHeartbeats 2000000 in
theorem l03Stakes_any (A : Option Addr) (n c : Nat) (xs : List Int) (A2 : Option Addr) (m c2 : Nat) (ob : List Bool) (B : Nat) (w : World) (hR : Rd w B A n xs) (hS : RdB w B A2 m ob) (hn : n ≤ 1048576) (hm : m ≤ 1048576) :
    Calls Try.prog 69 #[.slice A n c, .slice A2 m c2] w fun e w' => e = .returned (.bool (stOk xs ob)) ∧ ∃ q, w' = w.drewN q := by
  have HL := hide hR.len
  have HL2 := hide hS.len
  have HO := hide (show stOk xs ob = (decide (1 ≤ n ∧ n ≤ 6) && (decide (m = n) && (hasF ob && !badB 1000000 0 xs))) by unfold stOk; rw [hR.len, hS.len])
  obtain ⟨E, hE⟩ := ex_eq (stOk xs ob)
  rw [hE] at HO ⊢
  clear hE
  go_enter Try.func69, Try.ntmps69
  go_wp2
  go_loopw [10] (fun i wr => ∃ k q : Nat, k ≤ n ∧ i = .int .i64 k ∧ Hid (∀ j, j < k → inB (xs.getD j 0) 0 1000000 = true) ∧ Hid (wr = w.drewN q)) (fun i _ => n - (intOf i).toNat)
  case atStart => exact ⟨0, 0, Nat.zero_le _, rfl, fun j hj => absurd hj (Nat.not_lt_zero j), rfl⟩
  case round =>
    obtain ⟨k, q, hk, rfl, hno, hw⟩ := hrel
    by_cases hlt : k < n
    · have hkx : k < xs.length := by rw [HL.out]; exact hlt
      have hR' : Rd wr B A n xs := by rw [hw.out]; exact hR
      obtain ⟨b, o, rfl, hbB, hc⟩ := hR'.at_ hlt
      cases hh : inB (xs.getD k 0) 0 1000000
      · have HF := hide (bad_yes hkx hh)
        have HE0 := hide (show E = false by rw [HO.out, HF.out]; simp)
        obtain ⟨x, hx⟩ := ex_eq (xs.getD k 0)
        rw [hx] at hc hh
        have HH := hide hh
        clear hkx hR hR' hh hx hS
        go_wp2_with (go_at_call 53; refine (l00In_any _ _ _ _).mono ?_; rintro e w' ⟨rfl, rfl⟩; rw [HH.out])
        go_ret
        exact ⟨by rw [HE0.out]; rfl, q, hw.out⟩
      · have HN := hide hh
        obtain ⟨x, hx⟩ := ex_eq (xs.getD k 0)
        rw [hx] at hc hh
        have HH := hide hh
        clear hkx hR hR' hh hx hS
        go_wp2_with (go_at_call 53; refine (l00In_any _ _ _ _).mono ?_; rintro e w' ⟨rfl, rfl⟩; rw [HH.out])
        go_roundw
        case rel => exact ⟨k + 1, q, by omega, by go_num, fun j hj => by rcases Nat.lt_succ_iff_lt_or_eq.1 hj with h | h; exact hno.out j h; rw [h]; exact HN.out, hw⟩
        case measure => simp [intOf]; omega
    · have hkm : k = n := by omega
      have HN := hide (bad_no (xs := xs) (lo := 0) (hi := 1000000) (fun j hj => hno.out j (by rw [hkm, ← HL.out]; exact hj)))
      have HO2 := hide (show E = (decide (1 ≤ n ∧ n ≤ 6) && (decide (m = n) && hasF ob)) by rw [HO.out, HN.out]; simp)
      have d1 : decide ((k : Int) < (n : Int)) = false := decide_eq_false (by omega)
      obtain ⟨wo, rfl⟩ : ∃ wo : World, wo = wr := ⟨_, rfl⟩
      clear hkm hR
      go_wp2
      go_loopw [5, 22] (fun fl i wr => ∃ (j q : Nat) (fb : Bool), j ≤ m ∧ i = .int .i64 j ∧ fl = .bool fb ∧ Hid (fb = true → hasF ob = true) ∧ Hid (fb = false → ∀ i, i < j → ob.getD i false = true) ∧ Hid (wr = w.drewN q)) (fun _ i _ => m - (intOf i).toNat)
      case atStart => exact ⟨0, q, false, Nat.zero_le _, rfl, rfl, (fun h => by cases h), (fun _ i hi => absurd hi (Nat.not_lt_zero i)), hw⟩
      case round =>
        clear hw
        obtain ⟨j, q, fb, hj, rfl, rfl, hy, hn', hw⟩ := hrel
        by_cases hjm : j < m
        · have hkx : j < ob.length := by rw [HL2.out]; exact hjm
          have hS' : RdB wr B A2 m ob := by rw [hw.out]; exact hS
          obtain ⟨b, o, rfl, hbB, hc⟩ := hS'.at_ hjm
          have HYY := hide (fun h => hasF_yes (ob := ob) hkx h)
          cases hh : ob.getD j false
          all_goals
            have HH := hide hh
            rw [hh] at hc
            clear hh hkx hS hS'
            cases fb
            all_goals
              go_wp2
              go_roundw
              case rel => exact ⟨j + 1, q, _, by omega, by go_num, rfl, (fun h => by first | exact HYY.out HH.out | exact hy.out rfl | cases h), (fun h i hi => by first | (rcases Nat.lt_succ_iff_lt_or_eq.1 hi with h' | h'; exact hn'.out rfl i h'; rw [h']; exact HH.out) | cases h), hw⟩
              case measure => simp [intOf]; omega
        · have HFB := hide (show hasF ob = fb by
            cases fb
            · exact hasF_no (fun i hi => hn'.out rfl i (by rw [HL2.out] at hi; omega))
            · exact hy.out rfl)
          have HO3 := hide (show E = (decide (1 ≤ n ∧ n ≤ 6) && (decide (m = n) && fb)) by rw [HO2.out, HFB.out])
          have d2 : decide ((j : Int) < (m : Int)) = false := decide_eq_false (by omega)
          clear hS
          by_cases h1 : 1 ≤ n
          rotate_left
          · have HF := hide (show E = false by rw [HO3.out]; simp [h1])
            go_wp2
            go_ret
            exact ⟨by rw [HF.out]; rfl, q, hw.out⟩
          by_cases h6 : n ≤ 6
          rotate_left
          · have HF := hide (show E = false by rw [HO3.out]; simp [h6])
            go_wp2
            go_ret
            exact ⟨by rw [HF.out]; rfl, q, hw.out⟩
          by_cases hmn : m = n
          rotate_left
          · have HF := hide (show E = false by rw [HO3.out]; simp [hmn])
            have hb : ((m : Int) == (n : Int)) = false := by simp; omega
            have hb2 : (m == n) = false := by simp [hmn]
            clear hmn
            go_wp2
            go_ret
            exact ⟨by rw [HF.out]; rfl, q, hw.out⟩
          have HF := hide (show E = fb by rw [HO3.out]; simp [h1, h6, hmn])
          have hb : ((m : Int) == (n : Int)) = true := by simp; omega
          have hb2 : (m == n) = true := by simp [hmn]
          clear hmn
          cases fb
          all_goals
            go_wp2
            go_ret
            exact ⟨by rw [HF.out]; rfl, q, hw.out⟩

end Go.Proofs.Ytlfffkjgepgcfaa.chance
