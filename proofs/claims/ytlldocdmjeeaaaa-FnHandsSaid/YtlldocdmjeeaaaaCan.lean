/-
  Hands and a board that can be counted: both packages agree. Conditions: those of each theorem.
-/
import Derived.Test.YtlldocdmjeeaaaaOuts
namespace Go.Proofs.Ytlldocdmjeeaaaa.hand
open Go.RowKit
open base mem grid

def canB (pss : List (List Int)) (bs : List Int) (least : Nat) : Bool :=
  decide (2 ≤ pss.length ∧ pss.length ≤ 4) && (decide (least ≤ bs.length ∧ bs.length ≤ 5) && ((pss.all fun p => p.length == 2) && cardsB (bs ++ pss.flatten)))
theorem rd_none {w : World} {B : Nat} {A : Option Addr} {n : Nat} {xs : List Int} (hR : Rd w B A n xs) (h : A = none) : n = 0 := by
  rcases Nat.eq_zero_or_pos n with h0 | h0
  · exact h0
  · obtain ⟨_, _, h', _⟩ := hR.2 h0
    rw [h] at h'
    cases h'
theorem can_all {pss : List (List Int)} (h : ∀ j, j < pss.length → (pss.getD j []).length = 2) : (pss.all fun p => p.length == 2) = true := by
  rw [List.all_eq_true]
  intro p hp
  obtain ⟨j, hj, rfl⟩ := List.mem_iff_getElem.1 hp
  have := h j hj
  simpa [List.getD, hj] using this
theorem can_no {pss : List (List Int)} {j : Nat} (hj : j < pss.length) (h : (pss.getD j []).length ≠ 2) : (pss.all fun p => p.length == 2) = false := by
  rw [List.all_eq_false]
  refine ⟨pss[j], List.getElem_mem hj, ?_⟩
  have e : pss.getD j [] = pss[j] := by simp [List.getD, hj]
  rw [e] at h
  simpa using h
theorem flat_step {pss : List (List Int)} {k : Nat} (hk : k < pss.length) : (pss.take (k + 1)).flatten = (pss.take k).flatten ++ pss.getD k [] := by
  have e : pss.getD k [] = pss[k] := by simp [List.getD, hk]
  rw [List.take_succ_eq_append_getElem hk, List.flatten_append, e]
  simp
theorem flat_len {pss : List (List Int)} (h : (pss.all fun p => p.length == 2) = true) : pss.flatten.length = 2 * pss.length := by
  rw [List.all_eq_true] at h
  induction pss with
  | nil => rfl
  | cons p pss ih =>
    have h1 := ih (fun q hq => h q (by simp [hq]))
    have h2 := h p (by simp)
    have h3 : p.length = 2 := by simpa using h2
    simp [h1, h3]
    omega
theorem flat_le {pss : List (List Int)} (k : Nat) (h : ∀ j, j < k → (pss.getD j []).length = 2) (hk : k ≤ pss.length) : (pss.take k).flatten.length = 2 * k := by
  have h1 := flat_len (pss := pss.take k) (can_all (fun j hj => by
    rw [List.length_take] at hj
    have := h j (by omega)
    simpa [List.getD, show j < k by omega] using this))
  rw [h1, List.length_take, Nat.min_eq_left hk]

set_option maxRecDepth 100000 in
set_option maxHeartbeats 4000000 in
theorem spec_can (A : Option Addr) (m c : Nat) (ts : List Sl) (pss : List (List Int)) (A2 : Option Addr) (n c2 : Nat) (bs : List Int) (least : Nat) (w : World) (hR : RdS w w.heap.size A m ts) (he : con ts = pss) (hm : m ≤ 1048576) (hM : ∀ p ∈ pss, p.length ≤ 1048576)
    (hY : Rd w w.heap.size A2 n bs) (hn : n ≤ 1048576) (hno : least ≤ n → A2 = none → c2 = 0) (_hle : least ≤ 5) :
    Calls Try.prog 73 #[.slice A m c, .slice A2 n c2, .int .i64 least] w fun e w' => e = .returned (.bool (canB pss bs least)) ∧ Below w.heap.size w w' := by
  have hl : pss.length = m := by rw [← he, con_len, hR.len]
  have hyl := hY.len
  have HO := hide (show canB pss bs least = (decide (2 ≤ m ∧ m ≤ 4) && (decide (least ≤ n ∧ n ≤ 5) && ((pss.all fun p => p.length == 2) && cardsB (bs ++ pss.flatten)))) by unfold canB; rw [hl, hyl])
  obtain ⟨E, hE⟩ := ex_eq (canB pss bs least)
  rw [hE] at HO ⊢
  have HL := hide hl
  have HYL := hide hyl
  have HE := hide he
  have HT := hide (show ∀ t ∈ ts, t.n ≤ 1048576 from fun t ht => by
    have h1 := (hR.2.1 t ht).1.len
    rw [← h1]
    exact hM _ (by rw [← he]; exact List.mem_map.2 ⟨t, ht, rfl⟩))
  clear hE hl hyl he hM
  by_cases h2 : 2 ≤ m
  rotate_left
  · have HF := hide (show E = false by rw [HO.out]; simp [h2])
    go_enter Try.func73, Try.ntmps73
    go_wp2_with fail
    go_ret
    exact ⟨by rw [HF.out]; rfl, Below.refl _ _⟩
  by_cases h4 : m ≤ 4
  rotate_left
  · have HF := hide (show E = false by rw [HO.out]; simp [h4])
    go_enter Try.func73, Try.ntmps73
    go_wp2_with fail
    go_ret
    exact ⟨by rw [HF.out]; rfl, Below.refl _ _⟩
  by_cases h3 : least ≤ n
  rotate_left
  · have HF := hide (show E = false by rw [HO.out]; simp [h3])
    have d1 : decide (n < least) = true := decide_eq_true (by omega)
    go_enter Try.func73, Try.ntmps73
    go_wp2_with fail
    go_ret
    exact ⟨by rw [HF.out]; rfl, Below.refl _ _⟩
  by_cases h5 : n ≤ 5
  rotate_left
  · have HF := hide (show E = false by rw [HO.out]; simp [h5])
    have d1 : decide (n < least) = false := decide_eq_false (by omega)
    go_enter Try.func73, Try.ntmps73
    go_wp2_with fail
    go_ret
    exact ⟨by rw [HF.out]; rfl, Below.refl _ _⟩
  have d1 : decide (n < least) = false := decide_eq_false (by omega)
  have HO2 := hide (show E = ((pss.all fun p => p.length == 2) && cardsB (bs ++ pss.flatten)) by rw [HO.out]; simp [h2, h4, h3, h5])
  have hno' := hno h3
  have HL0 : Hid (True) := trivial
  go_enter Try.func73, Try.ntmps73
  go_wp2_with (at_builtin; refine wpList_app rfl (.tmp 29) (.tmp 30) rfl w.heap.size _ [] bs rfl (Lst.new w (Nat.le_refl _)) A2 n c2 rfl ((hY.alloc (Nat.le_refl _) _).more (by simp)) hno' (by simp; omega) (by simp) ?_; intro v1 w1 ho1 hg1 hbk1)
  have hb1 := ((Below.refl w.heap.size w).alloc (Nat.le_refl _) (.cells #[] 2)).grown hg1 (by simp) (fun k hk => ((Lst.new w (Nat.le_refl _)).blk k hk).1)
  rw [List.nil_append] at ho1
  clear HL0
  have HL0 := hide ho1
  have HB0 := hide hb1
  clear ho1 hg1 hbk1 hb1 hY
  go_loopw [7, 34] (fun v i wr => ∃ k : Nat, k ≤ m ∧ i = .int .i64 k ∧ Lst wr w.heap.size v (bs ++ (pss.take k).flatten) ∧ Below w.heap.size w wr ∧ Hid (∀ j, j < k → (pss.getD j []).length = 2)) (fun _ i _ => m - (intOf i).toNat)
  case atStart => exact ⟨0, Nat.zero_le _, rfl, by simpa using HL0.out, HB0.out, fun j hj => absurd hj (Nat.not_lt_zero j)⟩
  case round =>
    clear HL0 HB0
    obtain ⟨k, hk, rfl, hO, hb, hall⟩ := hrel
    by_cases hlt : k < m
    · have hkx : k < pss.length := by rw [HL.out]; exact hlt
      obtain ⟨b, o, t, rfl, hbB, ht, hc, hok⟩ := (hR.below hb).at_ hlt
      have hcd : pss.getD k [] = t.xs := by rw [← HE.out]; exact con_getU ht
      have hst := flat_step hkx
      rw [hcd] at hst
      have htn := HT.out t (List.mem_of_getElem? ht)
      obtain ⟨hr, hnc, hnn⟩ := hok
      have hgr := hb.size
      have hfl := flat_le k hall.out (by omega)
      have hOl : (bs ++ (pss.take k).flatten).length ≤ 13 := by rw [List.length_append, hfl, HYL.out]; omega
      by_cases hh : t.n = 2
      · have HG := hide (show (pss.getD k []).length = 2 by rw [hcd, hr.len]; exact hh)
        have hstt : bs ++ (pss.take (k + 1)).flatten = (bs ++ (pss.take k).flatten) ++ t.xs := by rw [hst, List.append_assoc]
        obtain ⟨S, hS⟩ := ex_eq (bs ++ (pss.take k).flatten)
        rw [hS] at hstt hO hOl
        have HST := hide hstt
        clear hst hstt hkx hcd ht hfl hS
        obtain ⟨tA, tn, tc, txs⟩ := t
        simp only at hc hr hnc hnn hh HST
        subst hh
        go_wp2_with (at_builtin; refine wpList_app rfl (.tmp 43) (.tmp 47) rfl w.heap.size _ S txs rfl hO tA 2 tc rfl (hr.more hgr) hnn (by omega) (by omega) ?_; intro v4 w4 ho4 hg4 hbk4)
        have hb4 := hb.grown hg4 hgr (fun k hk => (hO.blk k hk).1)
        have ho4' : Lst w4 w.heap.size v4 (bs ++ (pss.take (k + 1)).flatten) := by rw [HST.out]; exact ho4
        clear ho4 hg4 hbk4 hO hb
        go_roundw
        case rel => exact ⟨k + 1, by omega, by go_num, ho4', hb4, fun j hj => by rcases Nat.lt_succ_iff_lt_or_eq.1 hj with h | h; exact hall.out j h; rw [h]; exact HG.out⟩
        case measure => simp [intOf]; omega
      · have HF := hide (show E = false by rw [HO2.out, can_no hkx (by rw [hcd, hr.len]; exact hh)]; rfl)
        have hb2 : ((t.n : Int) != 2) = true := by simp; omega
        clear hst hkx hcd ht hO hfl
        obtain ⟨tA, tn, tc, txs⟩ := t
        simp only at hc hh hb2
        go_wp2
        go_ret
        exact ⟨by rw [HF.out]; rfl, hb⟩
    · have hkm : k = m := by omega
      have hal := can_all (pss := pss) (fun j hj => hall.out j (by rw [hkm, ← HL.out]; exact hj))
      have hfl := flat_len hal
      rw [HL.out] at hfl
      have HF := hide (show E = cardsB (bs ++ pss.flatten) by rw [HO2.out, hal]; rfl)
      rw [hkm, List.take_of_length_le (by rw [HL.out]; exact Nat.le_refl _)] at hO
      have hal2 : (bs ++ pss.flatten).length = n + 2 * m := by rw [List.length_append, hfl, HYL.out]
      obtain ⟨A', c', rfl, ho⟩ := hO.formn hal2
      obtain ⟨S, hS⟩ := ex_eq (bs ++ pss.flatten)
      rw [hS] at HF ho hal2
      have d5 : decide ((k : Int) < (m : Int)) = false := decide_eq_false (by omega)
      clear hkm hal hfl hS hO
      obtain ⟨N, hN⟩ := ex_eq (n + 2 * m)
      rw [hN] at ho hal2
      have hN13 : 4 ≤ N ∧ N ≤ 13 := by omega
      obtain ⟨g, rfl, hBg, hgs⟩ := ho.form (by omega)
      have hcap := ho.cap
      have hRS := ho.rd
      have HAL := hide hal2
      obtain ⟨wo, rfl⟩ : ∃ wo : World, wo = wr := ⟨_, rfl⟩
      rw [hN]
      clear hal2 hN ho
      go_wp2
      go_loopw [52] (fun i wr => ∃ k q : Nat, k ≤ N ∧ i = .int .i64 k ∧ Hid (∀ j, j < k → goodC S j = true) ∧ Hid (wr = wo.drewN q)) (fun i _ => N - (intOf i).toNat)
      case atStart => exact ⟨0, 0, Nat.zero_le _, rfl, (fun j hj => absurd hj (Nat.not_lt_zero j)), rfl⟩
      case round =>
        obtain ⟨k, q, hk, rfl, hgood, hw⟩ := hrel
        by_cases hlt : k < N
        · have hRk : Rd wr wo.heap.size (some ⟨g, 0, none⟩) k (S.take k) := by rw [hw.out]; exact Rd.take hRS hk
          have hR' : Rd wr wo.heap.size (some ⟨g, 0, none⟩) N S := by rw [hw.out]; exact hRS
          obtain ⟨b, o, e, hbB, hc⟩ := hR'.at_ hlt
          obtain ⟨rfl, rfl⟩ : g = b ∧ 0 = o := by simpa using e
          rw [Nat.zero_add] at hc
          have hkx : k < S.length := by rw [HAL.out]; exact hlt
          have hlt' : (k : Int) < (N : Int) := by omega
          have h0 : (0 : Int) ≤ (k : Int) := by omega
          have hkc : (k : Int) ≤ (c' : Int) := by omega
          obtain ⟨x, hx⟩ := ex_eq (S.getD k 0)
          have hgx : goodC S k = (inB x 0 51 && !hasB (S.take k) x) := by unfold goodC; rw [hx]
          rw [hx] at hc
          clear hR' hbB e
          cases hin : inB x 0 51
          · have HF2 := hide (show E = false by rw [HF.out]; exact cards_no hkx (by rw [hgx, hin]; rfl))
            clear hkx hRk hx hgx
            go_wp2
            go_quiet ((go_at_call 62; exact quiet_eq (l00In_any _ _ _ _)))
            go_wp2
            go_ret
            exact ⟨by rw [HF2.out]; rfl, by rw [hw.out]; exact bdrewN (bdrewN hb q) _⟩
          · have hH := fun q => l00Has_any (some ⟨g, 0, none⟩) k c' (S.take k) x wo.heap.size (wr.drewN q) (hRk.drewN q) (by omega)
            cases hhas : hasB (S.take k) x
            · have HN := hide (show goodC S k = true by rw [hgx, hin, hhas]; rfl)
              rw [hhas] at hH
              have HH := hide hH
              clear hkx hRk hH hhas hx hgx
              go_wp2
              go_quiet ((first | (go_at_call 62; exact quiet_eq (l00In_any _ _ _ _)) | (go_at_call 64; exact quiet_eq (HH.out _))))
              go_wp2
              go_roundw
              case rel => exact ⟨k + 1, q + nq, by omega, by go_num, (fun i hi => by rcases Nat.lt_succ_iff_lt_or_eq.1 hi with h | h; exact hgood.out i h; rw [h]; exact HN.out), hide (by rw [hw.out, World.drewN_drewN])⟩
              case measure => simp [intOf]; omega
            · have HF2 := hide (show E = false by rw [HF.out]; exact cards_no hkx (by rw [hgx, hin, hhas]; rfl))
              rw [hhas] at hH
              have HH := hide hH
              clear hkx hRk hH hhas hx hgx
              go_wp2
              go_quiet ((first | (go_at_call 62; exact quiet_eq (l00In_any _ _ _ _)) | (go_at_call 64; exact quiet_eq (HH.out _))))
              go_wp2
              go_ret
              exact ⟨by rw [HF2.out]; rfl, by rw [hw.out]; exact bdrewN (bdrewN hb q) _⟩
        · have hkN : k = N := by omega
          have HY := hide (show E = true by rw [HF.out]; exact cards_yes (fun j hj => hgood.out j (by rw [HAL.out] at hj; omega)))
          clear hkN
          go_wp2
          go_ret
          exact ⟨by rw [HY.out]; rfl, by rw [hw.out]; exact bdrewN hb q⟩

set_option maxRecDepth 100000 in
set_option maxHeartbeats 4000000 in
theorem impl_can (A : Option Addr) (m c : Nat) (ts : List Sl) (pss : List (List Int)) (A2 : Option Addr) (n c2 : Nat) (bs : List Int) (least : Nat) (w : World) (hR : RdS w w.heap.size A m ts) (he : con ts = pss) (hm : m ≤ 1048576) (hM : ∀ p ∈ pss, p.length ≤ 1048576)
    (hY : Rd w w.heap.size A2 n bs) (hn : n ≤ 1048576) (hno : least ≤ n → A2 = none → c2 = 0) (_hle : least ≤ 5) :
    Calls Try.prog 76 #[.slice A m c, .slice A2 n c2, .int .i64 least] w fun e w' => e = .returned (.bool (canB pss bs least)) ∧ Below w.heap.size w w' := by
  have hl : pss.length = m := by rw [← he, con_len, hR.len]
  have hyl := hY.len
  have HO := hide (show canB pss bs least = (decide (2 ≤ m ∧ m ≤ 4) && (decide (least ≤ n ∧ n ≤ 5) && ((pss.all fun p => p.length == 2) && cardsB (bs ++ pss.flatten)))) by unfold canB; rw [hl, hyl])
  obtain ⟨E, hE⟩ := ex_eq (canB pss bs least)
  rw [hE] at HO ⊢
  have HL := hide hl
  have HYL := hide hyl
  have HE := hide he
  have HT := hide (show ∀ t ∈ ts, t.n ≤ 1048576 from fun t ht => by
    have h1 := (hR.2.1 t ht).1.len
    rw [← h1]
    exact hM _ (by rw [← he]; exact List.mem_map.2 ⟨t, ht, rfl⟩))
  clear hE hl hyl he hM
  by_cases h2 : 2 ≤ m
  rotate_left
  · have HF := hide (show E = false by rw [HO.out]; simp [h2])
    go_enter Try.func76, Try.ntmps76
    go_wp2_with fail
    go_ret
    exact ⟨by rw [HF.out]; rfl, Below.refl _ _⟩
  by_cases h4 : m ≤ 4
  rotate_left
  · have HF := hide (show E = false by rw [HO.out]; simp [h4])
    go_enter Try.func76, Try.ntmps76
    go_wp2_with fail
    go_ret
    exact ⟨by rw [HF.out]; rfl, Below.refl _ _⟩
  by_cases h3 : least ≤ n
  rotate_left
  · have HF := hide (show E = false by rw [HO.out]; simp [h3])
    have d1 : decide (n < least) = true := decide_eq_true (by omega)
    go_enter Try.func76, Try.ntmps76
    go_wp2_with fail
    go_ret
    exact ⟨by rw [HF.out]; rfl, Below.refl _ _⟩
  by_cases h5 : n ≤ 5
  rotate_left
  · have HF := hide (show E = false by rw [HO.out]; simp [h5])
    have d1 : decide (n < least) = false := decide_eq_false (by omega)
    go_enter Try.func76, Try.ntmps76
    go_wp2_with fail
    go_ret
    exact ⟨by rw [HF.out]; rfl, Below.refl _ _⟩
  have d1 : decide (n < least) = false := decide_eq_false (by omega)
  have HO2 := hide (show E = ((pss.all fun p => p.length == 2) && cardsB (bs ++ pss.flatten)) by rw [HO.out]; simp [h2, h4, h3, h5])
  have hno' := hno h3
  have HCL := hide (Clone_any A2 n c2 bs w hY hn (fun h => ⟨rd_none hY h, hno' h⟩))
  go_enter Try.func76, Try.ntmps76
  go_wp2_with (go_at_call 66; refine HCL.out.mono ?_; rintro e w1 ⟨A1, c1, rfl, ho1, hb1⟩)
  have HL0 := hide (Lst.of ho1)
  have HB0 := hide hb1
  clear ho1 hb1 hY
  go_loopw [7, 33] (fun v i wr => ∃ k : Nat, k ≤ m ∧ i = .int .i64 k ∧ Lst wr w.heap.size v (bs ++ (pss.take k).flatten) ∧ Below w.heap.size w wr ∧ Hid (∀ j, j < k → (pss.getD j []).length = 2)) (fun _ i _ => m - (intOf i).toNat)
  case atStart => exact ⟨0, Nat.zero_le _, rfl, by simpa using HL0.out, HB0.out, fun j hj => absurd hj (Nat.not_lt_zero j)⟩
  case round =>
    clear HL0 HB0
    obtain ⟨k, hk, rfl, hO, hb, hall⟩ := hrel
    by_cases hlt : k < m
    · have hkx : k < pss.length := by rw [HL.out]; exact hlt
      obtain ⟨b, o, t, rfl, hbB, ht, hc, hok⟩ := (hR.below hb).at_ hlt
      have hcd : pss.getD k [] = t.xs := by rw [← HE.out]; exact con_getU ht
      have hst := flat_step hkx
      rw [hcd] at hst
      have htn := HT.out t (List.mem_of_getElem? ht)
      obtain ⟨hr, hnc, hnn⟩ := hok
      have hgr := hb.size
      have hfl := flat_le k hall.out (by omega)
      have hOl : (bs ++ (pss.take k).flatten).length ≤ 13 := by rw [List.length_append, hfl, HYL.out]; omega
      by_cases hh : t.n = 2
      · have HG := hide (show (pss.getD k []).length = 2 by rw [hcd, hr.len]; exact hh)
        have hstt : bs ++ (pss.take (k + 1)).flatten = (bs ++ (pss.take k).flatten) ++ t.xs := by rw [hst, List.append_assoc]
        obtain ⟨S, hS⟩ := ex_eq (bs ++ (pss.take k).flatten)
        rw [hS] at hstt hO hOl
        have HST := hide hstt
        clear hst hstt hkx hcd ht hfl hS
        obtain ⟨tA, tn, tc, txs⟩ := t
        simp only at hc hr hnc hnn hh HST
        subst hh
        go_wp2_with (at_builtin; refine wpList_app rfl (.tmp 40) (.tmp 41) rfl w.heap.size _ S txs rfl hO tA 2 tc rfl (hr.more hgr) hnn (by omega) (by omega) ?_; intro v4 w4 ho4 hg4 hbk4)
        have hb4 := hb.grown hg4 hgr (fun k hk => (hO.blk k hk).1)
        have ho4' : Lst w4 w.heap.size v4 (bs ++ (pss.take (k + 1)).flatten) := by rw [HST.out]; exact ho4
        clear ho4 hg4 hbk4 hO hb
        go_roundw
        case rel => exact ⟨k + 1, by omega, by go_num, ho4', hb4, fun j hj => by rcases Nat.lt_succ_iff_lt_or_eq.1 hj with h | h; exact hall.out j h; rw [h]; exact HG.out⟩
        case measure => simp [intOf]; omega
      · have HF := hide (show E = false by rw [HO2.out, can_no hkx (by rw [hcd, hr.len]; exact hh)]; rfl)
        have hb2 : ((t.n : Int) != 2) = true := by simp; omega
        clear hst hkx hcd ht hO hfl
        obtain ⟨tA, tn, tc, txs⟩ := t
        simp only at hc hh hb2
        go_wp2
        go_ret
        exact ⟨by rw [HF.out]; rfl, hb⟩
    · have hkm : k = m := by omega
      have hal := can_all (pss := pss) (fun j hj => hall.out j (by rw [hkm, ← HL.out]; exact hj))
      have hfl := flat_len hal
      rw [HL.out] at hfl
      have HF := hide (show E = cardsB (bs ++ pss.flatten) by rw [HO2.out, hal]; rfl)
      rw [hkm, List.take_of_length_le (by rw [HL.out]; exact Nat.le_refl _)] at hO
      have hal2 : (bs ++ pss.flatten).length = n + 2 * m := by rw [List.length_append, hfl, HYL.out]
      obtain ⟨A', c', rfl, ho⟩ := hO.formn hal2
      obtain ⟨S, hS⟩ := ex_eq (bs ++ pss.flatten)
      rw [hS] at HF ho hal2
      have d5 : decide ((k : Int) < (m : Int)) = false := decide_eq_false (by omega)
      clear hkm hal hfl hS hO
      have HIS := hide (isHand_any A' (n + 2 * m) c' S 4 13 wr.heap.size wr ho.rd (by omega) ho.cap.1 (by omega) (by omega))
      have HHE := hide (show handB S 4 13 = cardsB S by unfold handB; rw [hal2]; simp; omega)
      rw [HHE.out, ← HF.out] at HIS
      go_wp2_with (go_at_call 53; refine HIS.out.mono ?_; rintro e w' ⟨rfl, rfl⟩)
      go_ret
      exact ⟨rfl, hb⟩

end Go.Proofs.Ytlldocdmjeeaaaa.hand
