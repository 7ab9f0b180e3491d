/-
  Pots in the implementation. Conditions: those of each theorem.
-/
import Derived.Test.YtlfffkjgepgcfaaPotS
import Derived.Test.YtlfffkjgepgcfaaSortI
import Derived.Test.YtlfffkjgepgcfaaCompL
import Derived.Shelf.SlicesG.CompactI
namespace Go.Proofs.Ytlfffkjgepgcfaa.chance
open Go.RowKit Go.Shelf
open base mem

theorem Own.cut {w : World} {B n c : Nat} {A : Addr} {xs : List Int} (h : Own w B (some A) n c xs) (k : Nat) (hk : k ≤ n) : Own w B (some A) k c (xs.take k) := by
  have hn := h.len
  obtain ⟨_, h2⟩ := h
  rcases h2 with ⟨h2, _⟩ | ⟨g, cap, cur, hv, hb, hg, hnc, hcm, hcs, hct⟩
  · cases h2
  · injection hv with e1 e2 e3
    subst e3
    refine ⟨by rw [ivs_len, List.length_take, Nat.mul_one]; omega, .inr ⟨g, c, cur, by rw [e1], hb, hg, by omega, hcm, hcs, ?_⟩⟩
    have h3 := congrArg (List.take k) hct
    rw [List.take_take, Nat.mul_one, Nat.min_eq_left hk] at h3
    rw [Nat.mul_one, h3]
    unfold ivs
    rw [List.map_take]
theorem comp_len (zs : List Int) : (Lib.compact zs).length ≤ zs.length := by
  unfold Lib.compact Lib.compactUpTo
  rw [List.length_map]
  exact Nat.le_trans (List.length_filter_le _ _) (by simp)
theorem Compact_any (A : Option Addr) (n c : Nat) (xs : List Int) (B : Nat) (w : World) (h : Own w B A n c xs) (hn : n ≤ 1048576) :
    Calls Try.prog 73 #[.slice A n c] w fun e w' => e = .returned (.slice A (Lib.compact xs).length c) ∧ Own w' B A (Lib.compact xs).length c (Lib.compact xs) ∧ w.grownBy w' (Value.slice A n c).ownBlock := by
  have hl := h.len
  rcases Nat.eq_zero_or_pos n with h0 | h0
  · subst h0
    have hx : xs = [] := List.eq_nil_of_length_eq_zero hl
    subst hx
    refine (AnyG.slices_Compact_int_empty compL A c w).mono ?_
    rintro e w' ⟨rfl, rfl⟩
    exact ⟨rfl, h, World.grownBy.refl _ _⟩
  · obtain ⟨g, rfl, hBg, hgs⟩ := h.form h0
    have H := AnyG.slices_Compact_int compL g 0 c xs w (deck.own_holds2 h) (by omega) (by rw [hl]; exact h.cap.1)
    rw [hl] at H
    refine H.mono ?_
    rintro e w' ⟨rfl, q, rfl⟩
    have hcl := comp_len xs
    rw [hl] at hcl
    have hp := deck.own_put2 h (Lib.compact xs ++ List.replicate (n - (Lib.compact xs).length) 0) (by simp; omega) q #[]
    rw [Sort.grow_empty] at hp
    have hc := Own.cut hp.1 (Lib.compact xs).length hcl
    rw [List.take_left] at hc
    exact ⟨rfl, hc, hp.2⟩
def impL (xs L : List Int) (n j : Nat) : List Int := if j = L.length then allPots xs L n else potsL xs L n j
theorem impL_len {xs L : List Int} {n j : Nat} (h0 : 0 < L.length) : (impL xs L n j).length = j := by
  unfold impL
  split
  · unfold allPots
    rename_i h
    rw [List.length_append, potsL_len]
    simp
    omega
  · exact potsL_len _ _ _ _
theorem impL_step {xs L : List Int} {n j : Nat} (hj : j < L.length) (hp : L.Pairwise (· < ·)) (hb : ∀ x ∈ L, 0 < x ∧ x ≤ 1000000) (hx : ∀ i, i < n → xs.getD i 0 ≤ 1000000) :
    impL xs L n (j + 1) = impL xs L n j ++ [potT xs (if j + 1 = L.length then 1000000 else L.getD j 0) (lowA L j) n] := by
  unfold impL
  rw [if_neg (show ¬ j = L.length by omega)]
  by_cases h : j + 1 = L.length
  · rw [if_pos h, if_pos h]
    have hjj : L.length - 1 = j := by omega
    unfold allPots
    rw [hjj]
    have e : L.getD j 0 = L[j] := by simp [List.getD, hj]
    have hLj := hb _ (List.getElem_mem hj)
    have hlo : lowA L j ≤ L.getD j 0 := by
      unfold lowA
      split
      · rw [e]; omega
      · have := List.pairwise_iff_getElem.1 hp (j - 1) j (by omega) hj (by omega)
        have e2 : L.getD (j - 1) 0 = L[j - 1] := by simp [List.getD, show j - 1 < L.length by omega]
        omega
    rw [pot_top xs (L.getD j 0) (lowA L j) 1000000 hlo (by rw [e]; exact hLj.2) n hx]
  · rw [if_neg h, if_neg h, potsL_step]

theorem or_bits (k : Nat) (hk : k < 6) (a : Nat) (ha : a < 2 ^ k) : bits .or .i64 (a : Int) ((2 ^ k : Nat) : Int) = ((a + 2 ^ k : Nat) : Int) := by
  have key : ∀ k : Fin 6, ∀ a : Fin 32, a.val < 2 ^ k.val → bits .or .i64 (a.val : Int) ((2 ^ k.val : Nat) : Int) = ((a.val + 2 ^ k.val : Nat) : Int) := by decide +kernel
  have h32 : 2 ^ k ≤ 2 ^ 5 := Nat.pow_le_pow_right (by decide) (by omega)
  exact key ⟨k, hk⟩ ⟨a, by omega⟩ ha

set_option maxRecDepth 100000 in
set_option maxHeartbeats 8000000 in
theorem pots_any (A : Option Addr) (n c : Nat) (xs : List Int) (A2 : Option Addr) (c2 : Nat) (ob : List Bool) (w : World) (hR : Rd w w.heap.size A n xs) (hn : n ≤ 1048576) (hS : RdB w w.heap.size A2 n ob) (hs : stOk xs ob = true) :
    Calls Try.prog 38 #[.slice A n c, .slice A2 n c2] w fun e w' => ∃ A' c' A3 c3, e = .returned (.tuple #[.slice A' (spPots xs ob).length c', .slice A3 (spSets xs ob).length c3, .bool (spOk xs ob)]) ∧
      Own w' w.heap.size A' (spPots xs ob).length c' (spPots xs ob) ∧ Own w' w.heap.size A3 (spSets xs ob).length c3 (spSets xs ob) ∧ Sep (.slice A' (spPots xs ob).length c') (.slice A3 (spSets xs ob).length c3) ∧ Below w.heap.size w w' := by
  obtain ⟨h16, hlo, hx⟩ := st_facts hs
  have H := hide (areStakes_any A n c xs A2 n c2 ob w.heap.size w hR hS hn hn)
  rw [hs] at H
  rw [hR.len] at h16 hx
  have hl := hR.len
  have hlf := lvls_facts xs ob n
  have hll := lvls_len xs ob n
  have hok : spOk xs ob = !((lvls xs ob n).length == 0) := by rw [spOk, hs, hl]; rfl
  have hp1 : spPots xs ob = if spOk xs ob = true then (if (lvls xs ob n).length = 0 then [] else allPots xs (lvls xs ob n) n) else [] := by unfold spPots potsOut; rw [hl]
  have hs1 : spSets xs ob = if spOk xs ob = true then setsL xs ob (lvls xs ob n) n (lvls xs ob n).length else [] := by unfold spSets setsOut; rw [hl]
  have hpos : ∀ x ∈ lvls xs ob n, 0 < x ∧ x ≤ 1000000 := fun x hx' => by
    obtain ⟨h0, i, hi, _, he⟩ := (hlf.2 x).1 hx'
    have := hx i hi
    exact ⟨h0, by omega⟩
  have hdef : Lib.compact (deck.srt (insT xs ob n)) = lvls xs ob n := rfl
  obtain ⟨L, hL⟩ := ex_eq (lvls xs ob n)
  rw [hL] at hlf hll hok hp1 hs1 hpos hdef
  have HST := hide (fun j (hj : j < L.length) => impL_step (xs := xs) (n := n) hj hlf.1 hpos (fun i hi => (hx i hi).2))
  obtain ⟨m, hm⟩ := ex_eq L.length
  rw [hm] at hll hok hp1 hs1 HST
  have HLV := hide (show ∀ j, j < m → 0 < L.getD j 0 ∧ L.getD j 0 ≤ 1000000 from fun j hj => by
    have hj' : j < L.length := by rw [hm]; exact hj
    have e : L.getD j 0 = L[j] := by simp [List.getD, hj']
    rw [e]; exact hpos _ (List.getElem_mem hj'))
  have HLO := hide (show ∀ j, j ≤ m → 0 ≤ lowA L j ∧ lowA L j ≤ 1000000 from fun j hj => by
    unfold lowA
    split
    · omega
    · have hj' : j - 1 < L.length := by rw [hm]; omega
      have e : L.getD (j - 1) 0 = L[j - 1] := by simp [List.getD, hj']
      rw [e]
      have := hpos _ (List.getElem_mem hj')
      omega)
  obtain ⟨KO, hKO⟩ := ex_eq (spOk xs ob)
  obtain ⟨PO, hPO⟩ := ex_eq (spPots xs ob)
  obtain ⟨SO, hSO⟩ := ex_eq (spSets xs ob)
  rw [hKO] at hok hp1 hs1 ⊢
  rw [hPO] at hp1 ⊢
  rw [hSO] at hs1 ⊢
  have HPO := hide hp1
  have HSO := hide hs1
  have HKO := hide hok
  have HX := hide hx
  have HM := hide hm
  have HDF := hide hdef
  obtain ⟨b, o, rfl, hbB, hc0⟩ := hR.2 (by omega)
  obtain ⟨b2, o2, rfl, hbB2, hc20⟩ := hS.2 (by omega)
  have HC := hide (fun (k : Nat) (w' : World) (hb : Below w.heap.size w w') (hk : k < n) => (hb.cell (p := ⟨b, o + k, none⟩) hbB).trans (hc0 k hk))
  have HC2 := hide (fun (k : Nat) (w' : World) (hb : Below w.heap.size w w') (hk : k < n) => (hb.cell (p := ⟨b2, o2 + k, none⟩) hbB2).trans (hc20 k hk))
  have HL0 := hide (Lst.new w (Nat.le_refl _))
  have HB0 := hide ((Below.refl w.heap.size w).alloc (Nat.le_refl _) (.cells #[] 2))
  clear hp1 hs1 hok hx hm hpos hL hlf hR hS hc0 hc20 hl hdef hKO hPO hSO hs hlo
  go_enter Try.func38, Try.ntmps38
  go_wp2_with (go_at_call 71; refine H.out.mono ?_; rintro e w' ⟨rfl, rfl⟩)
  go_loopw [7, 27] (fun v i wr => ∃ k : Nat, k ≤ n ∧ i = .int .i64 k ∧ Lst wr w.heap.size v (insT xs ob k) ∧ Below w.heap.size w wr) (fun _ i _ => n - (intOf i).toNat)
  case atStart => exact ⟨0, Nat.zero_le _, rfl, HL0.out, HB0.out⟩
  case round =>
    obtain ⟨k, hk, rfl, hO, hb⟩ := hrel
    by_cases hlt : k < n
    · have c1 := HC.out k wr hb hlt
      have c2' := HC2.out k wr hb hlt
      have hst : insT xs ob (k + 1) = if (live ob k && decide (0 < xs.getD k 0)) = true then insT xs ob k ++ [xs.getD k 0] else insT xs ob k := rfl
      have hli : live ob k = !ob.getD k false := rfl
      have hil := insT_len xs ob k
      have hgr := hb.size
      obtain ⟨x, hxx⟩ := ex_eq (xs.getD k 0)
      obtain ⟨bb, hbb⟩ := ex_eq (ob.getD k false)
      obtain ⟨S, hS⟩ := ex_eq (insT xs ob k)
      rw [hbb] at hli c2'
      rw [hxx, hli, hS] at hst
      rw [hxx] at c1
      rw [hS] at hO hil
      have HS := hide hst
      clear hst hli hxx hbb hS
      cases bb
      · by_cases h3 : 0 < x
        · have HF := hide (show insT xs ob (k + 1) = S ++ [x] by rw [HS.out]; simp [h3])
          go_wp2_with (at_builtin; refine wpList_app rfl (.tmp 41) (.tmp 43) rfl w.heap.size _ S [x] rfl (hO.alloc _) (some ⟨wr.heap.size, 0, none⟩) 1 1 rfl (rd_one wr x 2) (fun h => by cases h) (by omega) (by simp; omega) ?_; intro v4 w4 ho4 hg4 hbk4)
          have hb4 := (hb.alloc hgr (.cells #[.int .i64 x] 2)).grown hg4 (by simp; omega) (fun k hk => ((hO.alloc (.cells #[.int .i64 x] 2)).blk k hk).1)
          have ho4' : Lst w4 w.heap.size v4 (insT xs ob (k + 1)) := by rw [HF.out]; exact ho4
          clear ho4 hg4 hbk4 hO hb
          go_roundw
          case rel => exact ⟨k + 1, by omega, by go_num, ho4', hb4⟩
          case measure => simp [intOf]; omega
        · have HF := hide (show insT xs ob (k + 1) = S by rw [HS.out]; simp [h3])
          go_wp2
          go_roundw
          case rel => exact ⟨k + 1, by omega, by go_num, by rw [HF.out]; exact hO, hb⟩
          case measure => simp [intOf]; omega
      · have HF := hide (show insT xs ob (k + 1) = S by rw [HS.out]; simp)
        go_wp2
        go_roundw
        case rel => exact ⟨k + 1, by omega, by go_num, by rw [HF.out]; exact hO, hb⟩
        case measure => simp [intOf]; omega
    · have hkn : k = n := by omega
      have d1 : decide ((k : Int) < (n : Int)) = false := decide_eq_false (by omega)
      rw [hkn] at hO
      have hil := insT_len xs ob n
      obtain ⟨A7, c7, rfl, ho⟩ := hO.form
      obtain ⟨I, hI⟩ := ex_eq (insT xs ob n)
      rw [hI] at ho hil
      have HI := hide hI
      obtain ⟨li, hli⟩ := ex_eq I.length
      rw [hI, hli]
      rw [hli] at ho hil
      have hgr := hb.size
      have HSR := hide (deck.Sort_any A7 li c7 I w.heap.size wr ho (by omega))
      clear hkn hI hO
      by_cases hm0 : m = 0
      · have hb0 : ((m : Int) == 0) = true := by simp [hm0]
        have hb1 : (m == 0) = true := by simp [hm0]
        have HF := hide (show KO = false ∧ PO = [] ∧ SO = [] by
          have hk : KO = false := by rw [HKO.out, hm0]; rfl
          exact ⟨hk, by rw [HPO.out, hk]; rfl, by rw [HSO.out, hk]; rfl⟩)
        go_wp2_with (first | (go_at_call 72; refine HSR.out.mono ?_; rintro e w3 ⟨rfl, ho3, hg3⟩; have hb3 := hb.grown hg3 hgr (fun k hk => (ho.ownBlock k hk).1); have HCP := hide (Compact_any A7 li c7 (deck.srt I) w.heap.size w3 ho3 (by omega)); rw [← HI.out, HDF.out, HM.out] at HCP) | (go_at_call 73; refine HCP.out.mono ?_; rintro e w4 ⟨rfl, ho4, hg4⟩))
        have hb4 := hb3.grown hg4 hb3.size (fun k hk => (ho3.ownBlock k hk).1)
        go_ret3
        exact ⟨none, 0, none, 0, by rw [HF.out.1, HF.out.2.1, HF.out.2.2]; rfl, by rw [HF.out.2.1]; exact Own.nil _ _, by rw [HF.out.2.2]; exact Own.nil _ _, by rw [HF.out.2.1]; exact .inl rfl, hb4⟩
      · have hb0 : ((m : Int) == 0) = false := by simp [hm0]
        have hb1 : (m == 0) = false := by simp [hm0]
        have HF := hide (show KO = true ∧ PO = allPots xs L n ∧ SO = setsL xs ob L n m by
          have hk : KO = true := by rw [HKO.out]; simp [hm0]
          exact ⟨hk, by rw [HPO.out, hk, if_pos rfl, if_neg hm0], by rw [HSO.out, hk]; rfl⟩)
        have HIL := hide (fun j => impL_len (xs := xs) (n := n) (L := L) (j := j) (by rw [HM.out]; omega))
        have HIE := hide (show impL xs L n m = allPots xs L n by unfold impL; rw [if_pos HM.out.symm])
        go_wp2_with (first | (go_at_call 72; refine HSR.out.mono ?_; rintro e w3 ⟨rfl, ho3, hg3⟩; have hb3 := hb.grown hg3 hgr (fun k hk => (ho.ownBlock k hk).1); have HCP := hide (Compact_any A7 li c7 (deck.srt I) w.heap.size w3 ho3 (by omega)); rw [← HI.out, HDF.out, HM.out] at HCP) | (go_at_call 73; refine HCP.out.mono ?_; rintro e w4 ⟨rfl, ho4, hg4⟩))
        have hb4 := hb3.grown hg4 hb3.size (fun k hk => (ho3.ownBlock k hk).1)
        have hr7 := ho4.rd
        obtain ⟨g7, rfl, _, hg7⟩ := ho4.form (by omega)
        have HP0 := hide ((Lst.new w4 (Nat.le_refl _)).alloc (.cells #[] 2))
        have HS0 := hide (Lst.new' (w4.alloc (.cells #[] 2)) (B := w4.heap.size) (by simp) (g := w4.heap.size + 1) (by simp))
        have HB4 := hide (((Below.refl w4.heap.size w4).alloc (Nat.le_refl _) (.cells #[] 2)).alloc (by simp) (.cells #[] 2))
        have HBW := hide hb4
        clear ho hg3 hb3 ho3 hg4 ho4 HSR HCP hb4 hb hgr HKO HPO HSO hb0 hb1
        go_loopw [10, 11, 12, 57] (fun p s lo i wr => ∃ (j : Nat) (Ap As : Option Addr) (cp cs : Nat), j ≤ m ∧ i = .int .i64 j ∧ lo = .int .i64 (lowA L j) ∧ p = .slice Ap j cp ∧ s = .slice As j cs ∧ Own wr w4.heap.size Ap j cp (impL xs L n j) ∧ Own wr w4.heap.size As j cs (setsL xs ob L n j) ∧ Sep (.slice Ap j cp) (.slice As j cs) ∧ Below w4.heap.size w4 wr) (fun _ _ _ i _ => m - (intOf i).toNat)
        case atStart => exact ⟨0, _, _, _, _, Nat.zero_le _, rfl, rfl, rfl, rfl, by have h : impL xs L n 0 = [] := List.eq_nil_of_length_eq_zero (HIL.out 0); rw [h]; exact HP0.out, HS0.out, .inr (by simp [Value.ownBlock]), HB4.out⟩
        case round =>
          clear HP0 HS0 HB4
          obtain ⟨j, Ap, As, cp, cs, hj, rfl, rfl, rfl, rfl, hP, hQ, hsep, hb⟩ := hrel
          have hlo := HLO.out j hj
          obtain ⟨low, hlw⟩ := ex_eq (lowA L j)
          rw [hlw] at hlo ⊢
          have HLW := hide hlw
          have hbo : Below w.heap.size w wr := HBW.out.trans (hb.mono HBW.out.size)
          obtain ⟨wo, rfl⟩ : ∃ wo : World, wo = wr := ⟨_, rfl⟩
          clear hlw
          by_cases hjm : j < m
          · have hst := HST.out j hjm
            have hss := setsL_step xs ob L n j
            have hH := HLV.out j hjm
            obtain ⟨bL, oL, eL, _, hcL⟩ := (hr7.below hb).at_ hjm
            obtain ⟨rfl, rfl⟩ : g7 = bL ∧ 0 = oL := by simpa using eL
            rw [Nat.zero_add] at hcL
            rw [HLW.out] at hst
            have hlx : lowA L (j + 1) = L.getD j 0 := by unfold lowA; rw [if_neg (by omega)]; rfl
            obtain ⟨H, hHe⟩ := ex_eq (L.getD j 0)
            rw [hHe] at hst hss hH hcL hlx
            have HLX := hide hlx
            by_cases hlast : j + 1 = m
            · rw [if_pos hlast] at hst
              have HSTP := hide hst
              have HSS := hide hss
              have hbl : ((j : Int) == (m : Int) - 1) = true := by simp; omega
              clear hlast hst hss hlx hHe eL
              go_wp2
              go_loopw [16, 17, 70] (fun pp ss i wr => ∃ (k q s : Nat), k ≤ n ∧ i = .int .i64 k ∧ pp = .int .i64 (potT xs 1000000 low k) ∧ ss = .int .i64 s ∧ Hid (setT xs ob H k = s) ∧ Hid (wr = wo.drewN q)) (fun _ _ i _ => n - (intOf i).toNat)
              case atStart => exact ⟨0, 0, 0, Nat.zero_le _, rfl, rfl, rfl, rfl, rfl⟩
              case round =>
                obtain ⟨k, q, s, hk, rfl, rfl, rfl, hs, hw⟩ := hrel
                have hbq3 : Below w.heap.size w wr := by rw [hw.out]; exact bdrewN hbo q
                by_cases hlt : k < n
                · have c1 := HC.out k wr hbq3 hlt
                  have c2' := HC2.out k wr hbq3 hlt
                  have hxk := HX.out k hlt
                  have hpb := potT_bound xs 1000000 low k hlo.1 (fun i hi => (HX.out i (by omega)).2)
                  have hsb := setT_small xs ob H k (by omega)
                  have hsl := setT_lt xs ob H k
                  have hst : potT xs 1000000 low (k + 1) = potT xs 1000000 low k + max 0 (min (xs.getD k 0) 1000000 - low) := rfl
                  have hst2 : setT xs ob H (k + 1) = if live ob k = true ∧ H ≤ xs.getD k 0 then setT xs ob H k + 2 ^ k else setT xs ob H k := rfl
                  have hli : live ob k = !ob.getD k false := rfl
                  obtain ⟨P, hP⟩ := ex_eq (potT xs 1000000 low k)
                  obtain ⟨x, hxx⟩ := ex_eq (xs.getD k 0)
                  obtain ⟨bb, hbb⟩ := ex_eq (ob.getD k false)
                  rw [hbb] at hli c2'
                  rw [hs.out, hxx, hli] at hst2
                  rw [hP, hxx] at hst
                  rw [hxx] at c1 hxk
                  rw [hs.out] at hsb hsl
                  rw [hP] at hpb ⊢
                  have hPb : 0 ≤ P ∧ P ≤ 6000000 := by omega
                  have HST := hide hst
                  have HST2 := hide hst2
                  have HSL := hide hsl
                  clear hst hst2 hli hP hxx hbb hbq3 hpb hs hsl
                  cases bb
                  · by_cases h3 : H ≤ x
                    · have HF := hide (show setT xs ob H (k + 1) = s + 2 ^ k by rw [HST2.out]; simp [h3])
                      clear HST2
                      obtain rfl | rfl | rfl | rfl | rfl | rfl : k = 0 ∨ k = 1 ∨ k = 2 ∨ k = 3 ∨ k = 4 ∨ k = 5 := by omega
                      all_goals
                        (try rw [Nat.add_zero] at c1 c2')
                        go_wp2
                        go_roundw
                        case rel => first | exact ⟨0 + 1, q, s + 2 ^ 0, by omega, by go_num, int_congr HST.out.symm, int_congr (or_bits 0 (by decide) s HSL.out), HF, hw⟩ | exact ⟨1 + 1, q, s + 2 ^ 1, by omega, by go_num, int_congr HST.out.symm, int_congr (or_bits 1 (by decide) s HSL.out), HF, hw⟩ | exact ⟨2 + 1, q, s + 2 ^ 2, by omega, by go_num, int_congr HST.out.symm, int_congr (or_bits 2 (by decide) s HSL.out), HF, hw⟩ | exact ⟨3 + 1, q, s + 2 ^ 3, by omega, by go_num, int_congr HST.out.symm, int_congr (or_bits 3 (by decide) s HSL.out), HF, hw⟩ | exact ⟨4 + 1, q, s + 2 ^ 4, by omega, by go_num, int_congr HST.out.symm, int_congr (or_bits 4 (by decide) s HSL.out), HF, hw⟩ | exact ⟨5 + 1, q, s + 2 ^ 5, by omega, by go_num, int_congr HST.out.symm, int_congr (or_bits 5 (by decide) s HSL.out), HF, hw⟩
                        case measure => simp [intOf] <;> omega
                    · have HF := hide (show setT xs ob H (k + 1) = s by rw [HST2.out]; simp [h3])
                      clear HST2
                      go_wp2
                      go_roundw
                      case rel => exact ⟨k + 1, q, s, by omega, by go_num, int_congr HST.out.symm, rfl, HF, hw⟩
                      case measure => simp [intOf] <;> omega
                  · have HF := hide (show setT xs ob H (k + 1) = s by rw [HST2.out]; simp)
                    clear HST2
                    go_wp2
                    go_roundw
                    case rel => exact ⟨k + 1, q, s, by omega, by go_num, int_congr HST.out.symm, rfl, HF, hw⟩
                    case measure => simp [intOf] <;> omega
                · have hkn : k = n := by omega
                  have d3 : decide ((k : Int) < (n : Int)) = false := decide_eq_false (by omega)
                  have hpn : potT xs 1000000 low n = potT xs 1000000 low k := by rw [hkn]
                  have hsn : setT xs ob H n = s := by rw [← hkn]; exact hs.out
                  have hstp := HSTP.out
                  have hss := HSS.out
                  rw [hpn] at hstp
                  rw [hsn] at hss
                  obtain ⟨P, hP'⟩ := ex_eq (potT xs 1000000 low k)
                  rw [hP'] at hstp ⊢
                  have HP1 := hide hstp
                  have HS1 := hide hss
                  have hP3 : Own wr w4.heap.size Ap j cp (impL xs L n j) := by rw [hw.out]; exact hP.drewN q
                  have hQ3 : Own wr w4.heap.size As j cs (setsL xs ob L n j) := by rw [hw.out]; exact hQ.drewN q
                  have hb3 : Below w4.heap.size w4 wr := by rw [hw.out]; exact bdrewN hb q
                  have hg3 := hb3.size
                  have hpl := HIL.out j
                  have hsl := setsL_len xs ob L n j
                  obtain ⟨PL, hPL⟩ := ex_eq (impL xs L n j)
                  obtain ⟨SL, hSL⟩ := ex_eq (setsL xs ob L n j)
                  rw [hPL] at hP3 hpl HP1
                  rw [hSL] at hQ3 hsl HS1
                  clear hkn hpn hsn hstp hss hP' hs hP hQ hb hPL hSL hbo hbq3
                  go_wp2_with (first | (at_builtin; refine wpList_app rfl (.tmp 98) (.tmp 100) rfl w4.heap.size _ PL [P] rfl ((Lst.of hP3).alloc _) (some ⟨wr.heap.size, 0, none⟩) 1 1 rfl (rd_one wr P 2) (fun h => by cases h) (by omega) (by simp; omega) ?_; intro v5 w5 ho5 hg5 hbk5; obtain ⟨A5, c5, rfl, ho5'⟩ := ho5.formn (n := j + 1) (by simp [hpl]); have hQ5 := World.ownsRow.kept (h := hQ3.alloc (.cells #[.int .i64 P] 2)) hg5 hsep.symm; have hsep5 := Sep.app hsep hbk5 (fun k hk => by have := ((hQ3.alloc (.cells #[.int .i64 P] 2)).ownBlock k hk).2; exact this); have hb5 := (hb3.alloc hg3 (.cells #[.int .i64 P] 2)).grown hg5 (by simp; omega) (fun k hk => (((Lst.of hP3).alloc (.cells #[.int .i64 P] 2)).blk k hk).1)) | (at_builtin; refine wpList_app rfl (.tmp 102) (.tmp 104) rfl w4.heap.size _ SL [((s : Nat) : Int)] rfl ((Lst.of hQ5).alloc _) (some ⟨w5.heap.size, 0, none⟩) 1 1 rfl (rd_one w5 ((s : Nat) : Int) 2) (fun h => by cases h) (by omega) (by simp; have := hb5.size; omega) ?_; intro v6 w6 ho6 hg6 hbk6))
                  obtain ⟨A6, c6, rfl, ho6'⟩ := ho6.formn (n := j + 1) (by simp [hsl])
                  have hP6 : Own w6 w4.heap.size A5 (j + 1) c5 (PL ++ [P]) := World.ownsRow.kept (h := ho5'.alloc (.cells #[.int .i64 ((s : Nat) : Int)] 2)) hg6 hsep5
                  have hsep6 : Sep (.slice A5 (j + 1) c5) (.slice A6 (j + 1) c6) := (Sep.app hsep5.symm hbk6 (fun k hk => by have := ((ho5'.alloc (.cells #[.int .i64 ((s : Nat) : Int)] 2)).ownBlock k hk).2; exact this)).symm
                  have hb6 := (hb5.alloc hb5.size (.cells #[.int .i64 ((s : Nat) : Int)] 2)).grown hg6 (by simp; have := hb5.size; omega) (fun k hk => (((Lst.of hQ5).alloc (.cells #[.int .i64 ((s : Nat) : Int)] 2)).blk k hk).1)
                  clear ho5 hg5 hbk5 ho6 hg6 hbk6 hQ5 hsep5 hb5 hP3 hQ3
                  go_roundw
                  case rel => exact ⟨j + 1, A5, A6, c5, c6, by omega, by go_num, by rw [HLX.out], rfl, rfl, by rw [HP1.out]; exact hP6, by rw [HS1.out]; exact ho6', hsep6, hb6⟩
                  case measure => simp [intOf] <;> omega
            · rw [if_neg hlast] at hst
              have HSTP := hide hst
              have HSS := hide hss
              have hbl : ((j : Int) == (m : Int) - 1) = false := by simp; omega
              clear hlast hst hss hlx hHe eL
              go_wp2
              go_loopw [16, 17, 70] (fun pp ss i wr => ∃ (k q s : Nat), k ≤ n ∧ i = .int .i64 k ∧ pp = .int .i64 (potT xs H low k) ∧ ss = .int .i64 s ∧ Hid (setT xs ob H k = s) ∧ Hid (wr = wo.drewN q)) (fun _ _ i _ => n - (intOf i).toNat)
              case atStart => exact ⟨0, 0, 0, Nat.zero_le _, rfl, rfl, rfl, rfl, rfl⟩
              case round =>
                obtain ⟨k, q, s, hk, rfl, rfl, rfl, hs, hw⟩ := hrel
                have hbq3 : Below w.heap.size w wr := by rw [hw.out]; exact bdrewN hbo q
                by_cases hlt : k < n
                · have c1 := HC.out k wr hbq3 hlt
                  have c2' := HC2.out k wr hbq3 hlt
                  have hxk := HX.out k hlt
                  have hpb := potT_bound xs H low k hlo.1 (fun i hi => (HX.out i (by omega)).2)
                  have hsb := setT_small xs ob H k (by omega)
                  have hsl := setT_lt xs ob H k
                  have hst : potT xs H low (k + 1) = potT xs H low k + max 0 (min (xs.getD k 0) H - low) := rfl
                  have hst2 : setT xs ob H (k + 1) = if live ob k = true ∧ H ≤ xs.getD k 0 then setT xs ob H k + 2 ^ k else setT xs ob H k := rfl
                  have hli : live ob k = !ob.getD k false := rfl
                  obtain ⟨P, hP⟩ := ex_eq (potT xs H low k)
                  obtain ⟨x, hxx⟩ := ex_eq (xs.getD k 0)
                  obtain ⟨bb, hbb⟩ := ex_eq (ob.getD k false)
                  rw [hbb] at hli c2'
                  rw [hs.out, hxx, hli] at hst2
                  rw [hP, hxx] at hst
                  rw [hxx] at c1 hxk
                  rw [hs.out] at hsb hsl
                  rw [hP] at hpb ⊢
                  have hPb : 0 ≤ P ∧ P ≤ 6000000 := by omega
                  have HST := hide hst
                  have HST2 := hide hst2
                  have HSL := hide hsl
                  clear hst hst2 hli hP hxx hbb hbq3 hpb hs hsl
                  cases bb
                  · by_cases h3 : H ≤ x
                    · have HF := hide (show setT xs ob H (k + 1) = s + 2 ^ k by rw [HST2.out]; simp [h3])
                      clear HST2
                      obtain rfl | rfl | rfl | rfl | rfl | rfl : k = 0 ∨ k = 1 ∨ k = 2 ∨ k = 3 ∨ k = 4 ∨ k = 5 := by omega
                      all_goals
                        (try rw [Nat.add_zero] at c1 c2')
                        go_wp2
                        go_roundw
                        case rel => first | exact ⟨0 + 1, q, s + 2 ^ 0, by omega, by go_num, int_congr HST.out.symm, int_congr (or_bits 0 (by decide) s HSL.out), HF, hw⟩ | exact ⟨1 + 1, q, s + 2 ^ 1, by omega, by go_num, int_congr HST.out.symm, int_congr (or_bits 1 (by decide) s HSL.out), HF, hw⟩ | exact ⟨2 + 1, q, s + 2 ^ 2, by omega, by go_num, int_congr HST.out.symm, int_congr (or_bits 2 (by decide) s HSL.out), HF, hw⟩ | exact ⟨3 + 1, q, s + 2 ^ 3, by omega, by go_num, int_congr HST.out.symm, int_congr (or_bits 3 (by decide) s HSL.out), HF, hw⟩ | exact ⟨4 + 1, q, s + 2 ^ 4, by omega, by go_num, int_congr HST.out.symm, int_congr (or_bits 4 (by decide) s HSL.out), HF, hw⟩ | exact ⟨5 + 1, q, s + 2 ^ 5, by omega, by go_num, int_congr HST.out.symm, int_congr (or_bits 5 (by decide) s HSL.out), HF, hw⟩
                        case measure => simp [intOf] <;> omega
                    · have HF := hide (show setT xs ob H (k + 1) = s by rw [HST2.out]; simp [h3])
                      clear HST2
                      go_wp2
                      go_roundw
                      case rel => exact ⟨k + 1, q, s, by omega, by go_num, int_congr HST.out.symm, rfl, HF, hw⟩
                      case measure => simp [intOf] <;> omega
                  · have HF := hide (show setT xs ob H (k + 1) = s by rw [HST2.out]; simp)
                    clear HST2
                    go_wp2
                    go_roundw
                    case rel => exact ⟨k + 1, q, s, by omega, by go_num, int_congr HST.out.symm, rfl, HF, hw⟩
                    case measure => simp [intOf] <;> omega
                · have hkn : k = n := by omega
                  have d3 : decide ((k : Int) < (n : Int)) = false := decide_eq_false (by omega)
                  have hpn : potT xs H low n = potT xs H low k := by rw [hkn]
                  have hsn : setT xs ob H n = s := by rw [← hkn]; exact hs.out
                  have hstp := HSTP.out
                  have hss := HSS.out
                  rw [hpn] at hstp
                  rw [hsn] at hss
                  obtain ⟨P, hP'⟩ := ex_eq (potT xs H low k)
                  rw [hP'] at hstp ⊢
                  have HP1 := hide hstp
                  have HS1 := hide hss
                  have hP3 : Own wr w4.heap.size Ap j cp (impL xs L n j) := by rw [hw.out]; exact hP.drewN q
                  have hQ3 : Own wr w4.heap.size As j cs (setsL xs ob L n j) := by rw [hw.out]; exact hQ.drewN q
                  have hb3 : Below w4.heap.size w4 wr := by rw [hw.out]; exact bdrewN hb q
                  have hg3 := hb3.size
                  have hpl := HIL.out j
                  have hsl := setsL_len xs ob L n j
                  obtain ⟨PL, hPL⟩ := ex_eq (impL xs L n j)
                  obtain ⟨SL, hSL⟩ := ex_eq (setsL xs ob L n j)
                  rw [hPL] at hP3 hpl HP1
                  rw [hSL] at hQ3 hsl HS1
                  clear hkn hpn hsn hstp hss hP' hs hP hQ hb hPL hSL hbo hbq3
                  go_wp2_with (first | (at_builtin; refine wpList_app rfl (.tmp 98) (.tmp 100) rfl w4.heap.size _ PL [P] rfl ((Lst.of hP3).alloc _) (some ⟨wr.heap.size, 0, none⟩) 1 1 rfl (rd_one wr P 2) (fun h => by cases h) (by omega) (by simp; omega) ?_; intro v5 w5 ho5 hg5 hbk5; obtain ⟨A5, c5, rfl, ho5'⟩ := ho5.formn (n := j + 1) (by simp [hpl]); have hQ5 := World.ownsRow.kept (h := hQ3.alloc (.cells #[.int .i64 P] 2)) hg5 hsep.symm; have hsep5 := Sep.app hsep hbk5 (fun k hk => by have := ((hQ3.alloc (.cells #[.int .i64 P] 2)).ownBlock k hk).2; exact this); have hb5 := (hb3.alloc hg3 (.cells #[.int .i64 P] 2)).grown hg5 (by simp; omega) (fun k hk => (((Lst.of hP3).alloc (.cells #[.int .i64 P] 2)).blk k hk).1)) | (at_builtin; refine wpList_app rfl (.tmp 102) (.tmp 104) rfl w4.heap.size _ SL [((s : Nat) : Int)] rfl ((Lst.of hQ5).alloc _) (some ⟨w5.heap.size, 0, none⟩) 1 1 rfl (rd_one w5 ((s : Nat) : Int) 2) (fun h => by cases h) (by omega) (by simp; have := hb5.size; omega) ?_; intro v6 w6 ho6 hg6 hbk6))
                  obtain ⟨A6, c6, rfl, ho6'⟩ := ho6.formn (n := j + 1) (by simp [hsl])
                  have hP6 : Own w6 w4.heap.size A5 (j + 1) c5 (PL ++ [P]) := World.ownsRow.kept (h := ho5'.alloc (.cells #[.int .i64 ((s : Nat) : Int)] 2)) hg6 hsep5
                  have hsep6 : Sep (.slice A5 (j + 1) c5) (.slice A6 (j + 1) c6) := (Sep.app hsep5.symm hbk6 (fun k hk => by have := ((ho5'.alloc (.cells #[.int .i64 ((s : Nat) : Int)] 2)).ownBlock k hk).2; exact this)).symm
                  have hb6 := (hb5.alloc hb5.size (.cells #[.int .i64 ((s : Nat) : Int)] 2)).grown hg6 (by simp; have := hb5.size; omega) (fun k hk => (((Lst.of hQ5).alloc (.cells #[.int .i64 ((s : Nat) : Int)] 2)).blk k hk).1)
                  clear ho5 hg5 hbk5 ho6 hg6 hbk6 hQ5 hsep5 hb5 hP3 hQ3
                  go_roundw
                  case rel => exact ⟨j + 1, A5, A6, c5, c6, by omega, by go_num, by rw [HLX.out], rfl, rfl, by rw [HP1.out]; exact hP6, by rw [HS1.out]; exact ho6', hsep6, hb6⟩
                  case measure => simp [intOf] <;> omega
          · have hjm' : j = m := by omega
            have d5 : decide ((j : Int) < (m : Int)) = false := decide_eq_false (by omega)
            have hPe : impL xs L n j = PO := by rw [hjm', HIE.out]; exact HF.out.2.1.symm
            have hQe : setsL xs ob L n j = SO := by rw [hjm']; exact HF.out.2.2.symm
            rw [hPe] at hP
            rw [hQe] at hQ
            have hpl := hP.len
            have hql := hQ.len
            have HPL := hide hpl
            have HQL := hide hql
            have hgw := HBW.out.size
            clear hjm' hPe hQe hpl hql
            go_wp2
            go_ret3
            refine ⟨Ap, cp, As, cs, ?_, ?_, ?_, ?_, hbo⟩
            · rw [HF.out.1, HPL.out, HQL.out]; rfl
            · rw [HPL.out]; exact hP.mono hgw
            · rw [HQL.out]; exact hQ.mono hgw
            · rw [HPL.out, HQL.out]; exact hsep

theorem impl_SidePots (A : Option Addr) (n c : Nat) (xs : List Int) (A2 : Option Addr) (m c2 : Nat) (ob : List Bool) (w : World) (hR : Rd w w.heap.size A n xs) (hn : n ≤ 1048576) (_hnc : n ≤ c) (hS : RdB w w.heap.size A2 m ob) (hm : m ≤ 1048576) (_hmc : m ≤ c2) :
    Calls Try.prog 38 #[.slice A n c, .slice A2 m c2] w fun e w' => ∃ A' c' A3 c3, e = .returned (.tuple #[.slice A' (spPots xs ob).length c', .slice A3 (spSets xs ob).length c3, .bool (spOk xs ob)]) ∧
      Own w' w.heap.size A' (spPots xs ob).length c' (spPots xs ob) ∧ Own w' w.heap.size A3 (spSets xs ob).length c3 (spSets xs ob) ∧ Sep (.slice A' (spPots xs ob).length c') (.slice A3 (spSets xs ob).length c3) ∧ Below w.heap.size w w' := by
  cases hs : stOk xs ob
  · have H := hide (areStakes_any A n c xs A2 m c2 ob w.heap.size w hR hS hn hm)
    have hk : spOk xs ob = false := by simp [spOk, hs]
    have ho : spPots xs ob = [] := by simp [spPots, hk]
    have ho2 : spSets xs ob = [] := by simp [spSets, hk]
    rw [hk, ho, ho2]
    rw [hs] at H
    clear hk ho ho2 hR hS
    go_enter Try.func38, Try.ntmps38
    go_wp2_with fail
    refine H.out.mono ?_
    rintro e w' ⟨rfl, rfl⟩
    go_wp2
    go_ret3
    exact ⟨none, 0, none, 0, rfl, Own.nil _ _, Own.nil _ _, .inl rfl, Below.refl _ _⟩
  · have h := st_facts hs
    obtain rfl : m = n := by rw [← hS.len, h.2.1, hR.len]
    exact pots_any A m c xs A2 c2 ob w hR hn hS hs

theorem spPots_len (xs : List Int) (ob : List Bool) : (spPots xs ob).length ≤ 1048576 := by have := (sp_len xs ob).1; omega
theorem spSets_len (xs : List Int) (ob : List Bool) : (spSets xs ob).length ≤ 1048576 := by have := sp_len xs ob; omega

end Go.Proofs.Ytlfffkjgepgcfaa.chance
