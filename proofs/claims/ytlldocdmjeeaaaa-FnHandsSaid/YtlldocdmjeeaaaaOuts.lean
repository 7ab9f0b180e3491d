/-
  The cards by which a hand comes to a value: both packages answer the same. Conditions: those of each theorem.
-/
import Derived.Test.YtlldocdmjeeaaaaBestI
import Derived.Test.YtlldocdmjeeaaaaUnk
namespace Go.Proofs.Ytlldocdmjeeaaaa.hand
open Go.RowKit
open base mem grid

def bestV (xs : List Int) (x : Int) : Int := (bestL (xs ++ [x])).2
def outsL (xs : List Int) (v : Int) : List Int := nums52.filter fun x => !hasB xs x && decide (v ≤ bestV xs x)
def outOk (xs : List Int) : Bool := handB xs 5 6
def outsOut (xs : List Int) (v : Int) : List Int := if outOk xs = true then outsL xs v else []
theorem outsOut_len (xs : List Int) (v : Int) : (outsOut xs v).length ≤ 1048576 := by
  unfold outsOut
  split
  · exact Nat.le_trans (List.length_filter_le _ _) (by decide)
  · simp
theorem hand_six (xs : List Int) : handB xs 5 6 = (handB xs 5 7 && !(xs.length == 7)) := by
  unfold handB
  cases cardsB xs
  · simp
  · rw [Bool.eq_iff_iff]; simp; omega
theorem fine_add {xs : List Int} (h : Fine xs) {x : Int} (h0 : 0 ≤ x) (h52 : x < 52) (hn : hasB xs x = false) : Fine (xs ++ [x]) := by
  have hx : x ∉ xs := of_decide_eq_false hn
  refine ⟨?_, fun y hy => ?_⟩
  · rw [List.nodup_append]
    refine ⟨h.1, by simp, fun a ha b hb => ?_⟩
    simp at hb
    subst hb
    intro e
    exact hx (e ▸ ha)
  · rcases List.mem_append.1 hy with hy | hy
    · exact h.2 y hy
    · simp at hy; subst hy; exact ⟨h0, h52⟩
def outT (xs : List Int) (v : Int) (k : Nat) : List Int := ((List.range k).map fun (i : Nat) => (i : Int)).filter fun x => !hasB xs x && decide (v ≤ bestV xs x)
theorem outT_step (xs : List Int) (v : Int) (k : Nat) : outT xs v (k + 1) = if (!hasB xs (k : Int) && decide (v ≤ bestV xs (k : Int))) = true then outT xs v k ++ [(k : Int)] else outT xs v k := by
  unfold outT
  rw [List.range_succ, List.map_append, List.filter_append]
  cases h : (!hasB xs (k : Int) && decide (v ≤ bestV xs (k : Int)))
  · simp [h]
  · simp [h]
theorem outT_len (xs : List Int) (v : Int) (k : Nat) : (outT xs v k).length ≤ k := by
  unfold outT
  exact Nat.le_trans (List.length_filter_le _ _) (by simp)
/-- the implementation's way: of those that are not known -/
def outU (U xs : List Int) (v : Int) (k : Nat) : List Int := (U.take k).filter fun x => decide (v ≤ bestV xs x)
theorem outU_step {U xs : List Int} {v : Int} {k : Nat} (hk : k < U.length) : outU U xs v (k + 1) = if decide (v ≤ bestV xs (U.getD k 0)) = true then outU U xs v k ++ [U.getD k 0] else outU U xs v k := by
  have e : U.getD k 0 = U[k] := by simp [List.getD, hk]
  unfold outU
  rw [List.take_succ_eq_append_getElem hk, List.filter_append, e]
  cases h : decide (v ≤ bestV xs U[k])
  · simp [h]
  · simp [h]
theorem outU_len (U xs : List Int) (v : Int) (k : Nat) : (outU U xs v k).length ≤ U.length := Nat.le_trans (List.length_filter_le _ _) (by simp; omega)
theorem outU_all (xs : List Int) (v : Int) (n : Nat) (hn : (unkL [xs]).length ≤ n) : outU (unkL [xs]) xs v n = outsL xs v := by
  unfold outU outsL
  rw [List.take_of_length_le hn]
  unfold unkL
  rw [List.filter_filter]
  apply List.filter_congr
  intro x _
  simp [anyB, Bool.and_comm]
theorem unk_mem {xs : List Int} {x : Int} (h : x ∈ unkL [xs]) : 0 ≤ x ∧ x < 52 ∧ hasB xs x = false := by
  unfold unkL at h
  rw [List.mem_filter] at h
  obtain ⟨h1, h2⟩ := h
  unfold nums52 at h1
  obtain ⟨i, hi, rfl⟩ := List.mem_map.1 h1
  rw [List.mem_range] at hi
  refine ⟨by omega, by omega, ?_⟩
  simpa [anyB] using h2
theorem unk_len (pss : List (List Int)) : (unkL pss).length ≤ 52 := Nat.le_trans (List.length_filter_le _ _) (by decide)
theorem rdS_one (w : World) (A : Option Addr) (n c : Nat) (xs : List Int) (hR : Rd w w.heap.size A n xs) (hnc : n ≤ c) (hA : A = none → c = 0) :
    RdS (w.alloc (.cells #[.slice A n c] 22)) (w.alloc (.cells #[.slice A n c] 22)).heap.size (some ⟨w.heap.size, 0, none⟩) 1 [⟨A, n, c, xs⟩] := by
  refine ⟨rfl, fun t ht => ?_, fun _ => ⟨w.heap.size, 0, rfl, by simp, fun i t ht => ?_⟩⟩
  · simp at ht
    subst ht
    exact ⟨(hR.alloc (Nat.le_refl _) _).more (by simp), hnc, hA⟩
  · have hi : i = 0 := by have := (List.getElem?_eq_some_iff.1 ht).1; simp at this; exact this
    subst hi
    simp at ht
    subst ht
    exact cell_one_new w (.slice A n c) 22 0 _ rfl

set_option maxRecDepth 100000 in
set_option maxHeartbeats 4000000 in
theorem spec_OutsOf (A : Option Addr) (n c : Nat) (xs : List Int) (v : Int) (w : World) (hR : Rd w w.heap.size A n xs) (hn : n ≤ 1048576) (hnc : n ≤ c) :
    Calls Try.prog 36 #[.slice A n c, .int .i64 v] w fun e w' => ∃ A' c', e = .returned (.tuple #[.slice A' (outsOut xs v).length c', .bool (outOk xs)]) ∧ Own w' w.heap.size A' (outsOut xs v).length c' (outsOut xs v) ∧ Below w.heap.size w w' := by
  have H1 := hide (l03Big_any A n c xs w.heap.size w hR hn hnc)
  have h6 := hand_six xs
  rw [hR.len] at h6
  cases hh : handB xs 5 7
  · have hk : outOk xs = false := by rw [outOk, h6, hh]; rfl
    have ho : outsOut xs v = [] := by simp [outsOut, hk]
    rw [hk, ho]
    rw [hh] at H1
    clear hk ho hR h6
    go_enter Try.func36, Try.ntmps36
    go_wp2_with fail
    refine H1.out.mono ?_
    rintro e w' ⟨rfl, q, rfl⟩
    go_wp2
    go_ret2
    exact ⟨none, 0, rfl, Own.nil _ _, bdrewN (Below.refl _ _) _⟩
  have hfi : Fine xs := cards_nodup (hand_cards hh)
  have h57 := hand_len hh
  rw [hR.len] at h57
  rw [hh] at H1 h6
  by_cases h7 : n = 7
  · have hb7 : ((n : Int) == 7) = true := by simp; omega
    have hk : outOk xs = false := by rw [outOk, h6, h7]; rfl
    have ho : outsOut xs v = [] := by simp [outsOut, hk]
    rw [hk, ho]
    clear hk ho hR h6 h7
    go_enter Try.func36, Try.ntmps36
    go_wp2_with fail
    refine H1.out.mono ?_
    rintro e w' ⟨rfl, q, rfl⟩
    go_wp2
    go_ret2
    exact ⟨none, 0, rfl, Own.nil _ _, bdrewN (Below.refl _ _) _⟩
  have hb7 : ((n : Int) == 7) = false := by simp; omega
  have hk : outOk xs = true := by rw [outOk, h6]; simp [h7]
  have ho : outsOut xs v = outsL xs v := by simp [outsOut, hk]
  rw [hk, ho]
  have HL := hide hR.len
  obtain ⟨b, o, rfl, hbB, _⟩ := hR.at_ (show 0 < n by omega)
  have HHA := hide (fun (x : Int) (q : World) (hb : Below w.heap.size w q) => l00Has_any (some ⟨b, o, none⟩) n c xs x w.heap.size q (hR.below hb) (by omega))
  have HFIN : Hid (outT xs v 52 = outsL xs v) := rfl
  obtain ⟨U, hU⟩ := ex_eq (outsL xs v)
  rw [hU] at HFIN ⊢
  have HFI := hide hfi
  have HRR := hide hR
  clear hU hR hk ho h6 hfi
  go_enter Try.func36, Try.ntmps36
  go_wp2_with fail
  refine H1.out.mono ?_
  rintro e w' ⟨rfl, q, rfl⟩
  have HL0 := hide (Lst.new (w.drewN q) (B := w.heap.size) (by simp))
  have HB0 := hide ((bdrewN (Below.refl w.heap.size w) q).alloc (by simp) (.cells #[] 2))
  go_wp2
  go_loopw [6, 7] (fun u i wr => ∃ k : Nat, k ≤ 52 ∧ i = .int .i64 k ∧ Lst wr w.heap.size u (outT xs v k) ∧ Below w.heap.size w wr) (fun _ i _ => 52 - (intOf i).toNat)
  case atStart => exact ⟨0, Nat.zero_le _, rfl, HL0.out, HB0.out⟩
  case round =>
    obtain ⟨k, hk, rfl, hO, hb⟩ := hrel
    by_cases hlt : k < 52
    · have hst := outT_step xs v k
      have hOl := outT_len xs v k
      have hgr := hb.size
      have HA := hide (HHA.out (k : Int) wr hb)
      obtain ⟨S, hS⟩ := ex_eq (outT xs v k)
      rw [hS] at hst hO hOl
      cases hhas : hasB xs (k : Int)
      · have HFK := hide (fine_add HFI.out (x := (k : Int)) (by omega) (by omega) hhas)
        rw [hhas] at HA hst
        obtain ⟨V, hV⟩ := ex_eq (bestV xs (k : Int))
        rw [hV] at hst
        have HV := hide (show (bestL (xs ++ [(k : Int)])).2 = V from hV)
        have hR1 := ((HRR.out.below hb).more hgr).alloc (Nat.le_refl _) (.cells #[] 2)
        have HST := hide hst
        clear hst hV hS hhas
        have hvr := (best_ok HFK.out (by rw [List.length_append, HL.out]; omega)).2.2.2
        rw [HV.out] at hvr
        by_cases hv : v ≤ V
        · have HS2 := hide (show outT xs v (k + 1) = S ++ [(k : Int)] by rw [HST.out]; simp [hv])
          go_wp2_with (first | (go_at_call 64; refine HA.out.mono ?_; rintro e w' ⟨rfl, rfl⟩) | (at_builtin; refine wpList_app rfl (.tmp 27) (.tmp 28) rfl wr.heap.size _ [] xs rfl (Lst.new wr (Nat.le_refl _)) (some ⟨b, o, none⟩) n c rfl (hR1.more (by simp)) (fun h => by cases h) (by simp; omega) (by simp) ?_; intro v1 w1 ho1 hg1 hbk1; have hb1 := ((Below.refl wr.heap.size wr).alloc (Nat.le_refl _) (.cells #[] 2)).grown hg1 (by simp) (fun k hk => ((Lst.new wr (Nat.le_refl _)).blk k hk).1); rw [List.nil_append] at ho1) | (at_builtin; refine wpList_app rfl (.tmp 29) (.tmp 31) rfl wr.heap.size _ xs [(k : Int)] rfl (ho1.alloc _) (some ⟨w1.heap.size, 0, none⟩) 1 1 rfl (rd_one w1 (k : Int) 2) (fun h => by cases h) (by rw [HL.out]; omega) (by simp; have := hb1.size; omega) ?_; intro v2 w2 ho2 hg2 hbk2; have hb2 := (hb1.alloc hb1.size (.cells #[.int .i64 (k : Int)] 2)).grown hg2 (by simp; have := hb1.size; omega) (fun k hk => ((ho1.alloc (.cells #[.int .i64 (k : Int)] 2)).blk k hk).1); obtain ⟨A2, c2, rfl, ho2'⟩ := ho2.formn (n := n + 1) (by simp [HL.out]); have HBE := hide (l03Best_any A2 (n + 1) c2 (xs ++ [(k : Int)]) w2.heap.size w2 ho2'.rd (Nat.le_refl _) (by omega) (by omega) HFK.out); rw [HV.out] at HBE) | (go_at_call 59; refine HBE.out.mono ?_; rintro e w3 ⟨v3, rfl, _, hb3⟩; have hb4 := hb2.trans (hb3.mono hb2.size); have hO3 : Lst w3 w.heap.size u6 S := hO.below hb4; have hb5 := hb.trans (hb4.mono hgr); have hg5 := hb5.size) | (at_builtin; refine wpList_app rfl (.tmp 39) (.tmp 41) rfl w.heap.size _ S [(k : Int)] rfl (hO3.alloc _) (some ⟨w3.heap.size, 0, none⟩) 1 1 rfl (rd_one w3 (k : Int) 2) (fun h => by cases h) (by omega) (by simp; omega) ?_; intro v4 w4 ho4 hg4 hbk4))
          have hb6 := (hb5.alloc hg5 (.cells #[.int .i64 (k : Int)] 2)).grown hg4 (by simp; omega) (fun k hk => ((hO3.alloc (.cells #[.int .i64 (k : Int)] 2)).blk k hk).1)
          have ho4' : Lst w4 w.heap.size v4 (outT xs v (k + 1)) := by rw [HS2.out]; exact ho4
          clear ho4 hg4 hbk4 hO3 hb5
          go_roundw
          case rel => exact ⟨k + 1, by omega, by go_num, ho4', hb6⟩
          case measure => simp [intOf]; omega
        · have HS2 := hide (show outT xs v (k + 1) = S by rw [HST.out]; simp [hv])
          go_wp2_with (first | (go_at_call 64; refine HA.out.mono ?_; rintro e w' ⟨rfl, rfl⟩) | (at_builtin; refine wpList_app rfl (.tmp 27) (.tmp 28) rfl wr.heap.size _ [] xs rfl (Lst.new wr (Nat.le_refl _)) (some ⟨b, o, none⟩) n c rfl (hR1.more (by simp)) (fun h => by cases h) (by simp; omega) (by simp) ?_; intro v1 w1 ho1 hg1 hbk1; have hb1 := ((Below.refl wr.heap.size wr).alloc (Nat.le_refl _) (.cells #[] 2)).grown hg1 (by simp) (fun k hk => ((Lst.new wr (Nat.le_refl _)).blk k hk).1); rw [List.nil_append] at ho1) | (at_builtin; refine wpList_app rfl (.tmp 29) (.tmp 31) rfl wr.heap.size _ xs [(k : Int)] rfl (ho1.alloc _) (some ⟨w1.heap.size, 0, none⟩) 1 1 rfl (rd_one w1 (k : Int) 2) (fun h => by cases h) (by rw [HL.out]; omega) (by simp; have := hb1.size; omega) ?_; intro v2 w2 ho2 hg2 hbk2; have hb2 := (hb1.alloc hb1.size (.cells #[.int .i64 (k : Int)] 2)).grown hg2 (by simp; have := hb1.size; omega) (fun k hk => ((ho1.alloc (.cells #[.int .i64 (k : Int)] 2)).blk k hk).1); obtain ⟨A2, c2, rfl, ho2'⟩ := ho2.formn (n := n + 1) (by simp [HL.out]); have HBE := hide (l03Best_any A2 (n + 1) c2 (xs ++ [(k : Int)]) w2.heap.size w2 ho2'.rd (Nat.le_refl _) (by omega) (by omega) HFK.out); rw [HV.out] at HBE) | (go_at_call 59; refine HBE.out.mono ?_; rintro e w3 ⟨v3, rfl, _, hb3⟩; have hb4 := hb2.trans (hb3.mono hb2.size); have hO3 : Lst w3 w.heap.size u6 S := hO.below hb4; have hb5 := hb.trans (hb4.mono hgr); have hg5 := hb5.size))
          go_roundw
          case rel => exact ⟨k + 1, by omega, by go_num, by rw [HS2.out]; exact hO3, hb5⟩
          case measure => simp [intOf]; omega
      · rw [hhas] at HA hst
        have HS2 := hide (show outT xs v (k + 1) = S by rw [hst]; simp)
        clear hst hS hhas
        go_wp2_with (go_at_call 64; refine HA.out.mono ?_; rintro e w' ⟨rfl, rfl⟩)
        go_roundw
        case rel => exact ⟨k + 1, by omega, by go_num, by rw [HS2.out]; exact hO, hb⟩
        case measure => simp [intOf]; omega
    · have hk52 : k = 52 := by omega
      rw [hk52, HFIN.out] at hO
      obtain ⟨A', c', rfl, ho⟩ := hO.form
      clear hk52 hO
      go_wp2
      go_ret2
      exact ⟨A', c', rfl, ho, hb⟩

theorem lst_lt {w : World} {B : Nat} {u : Value} {S : List Int} (h : Lst w B u S) (x : World) (hx : w.heap.size ≤ x.heap.size) : ∀ k, u.ownBlock = some k → k < x.heap.size := fun k hk => Nat.lt_of_lt_of_le (h.blk k hk).2 hx
set_option maxRecDepth 100000 in
set_option maxHeartbeats 4000000 in
theorem impl_OutsOf (A : Option Addr) (n c : Nat) (xs : List Int) (v : Int) (w : World) (hR : Rd w w.heap.size A n xs) (hn : n ≤ 1048576) (hnc : n ≤ c) :
    Calls Try.prog 37 #[.slice A n c, .int .i64 v] w fun e w' => ∃ A' c', e = .returned (.tuple #[.slice A' (outsOut xs v).length c', .bool (outOk xs)]) ∧ Own w' w.heap.size A' (outsOut xs v).length c' (outsOut xs v) ∧ Below w.heap.size w w' := by
  have H1 := hide (isHand_any A n c xs 5 6 w.heap.size w hR hn hnc (by omega) (by omega))
  cases hh : handB xs 5 6
  · have hk : outOk xs = false := hh
    have ho : outsOut xs v = [] := by simp [outsOut, hk]
    rw [hk, ho]
    rw [hh] at H1
    clear hk ho hR
    go_enter Try.func37, Try.ntmps37
    go_wp2_with fail
    refine H1.out.mono ?_
    rintro e w' ⟨rfl, rfl⟩
    go_wp2
    go_ret2
    exact ⟨none, 0, rfl, Own.nil _ _, Below.refl _ _⟩
  have hfi : Fine xs := cards_nodup (hand_cards hh)
  have h57 := hand_len hh
  rw [hR.len] at h57
  rw [hh] at H1
  have hk : outOk xs = true := hh
  have ho : outsOut xs v = outsL xs v := by simp [outsOut, hk]
  rw [hk, ho]
  have HL := hide hR.len
  obtain ⟨b, o, rfl, hbB, _⟩ := hR.at_ (show 0 < n by omega)
  obtain ⟨OUT, hOUT⟩ := ex_eq (outsL xs v)
  have HALL := hide (outU_all xs v)
  rw [hOUT] at HALL ⊢
  have HMEM := hide (fun (x : Int) (h : x ∈ unkL [xs]) => unk_mem h)
  have hlen := unk_len [xs]
  have hrs := rdS_one (w.alloc (.cells #[] 2)) (some ⟨b, o, none⟩) n c xs ((hR.alloc (Nat.le_refl _) _).more (by simp)) hnc (fun h => by cases h)
  have HUN := hide (unknown_any (some ⟨(w.alloc (.cells #[] 2)).heap.size, 0, none⟩) 1 1 [⟨some ⟨b, o, none⟩, n, c, xs⟩] _ hrs (by omega) (fun t ht => by simp at ht; subst ht; exact hn))
  rw [show con [⟨some ⟨b, o, none⟩, n, c, xs⟩] = [xs] from rfl, show (w.alloc (.cells #[] 2)).heap.size = w.heap.size + 1 by simp] at HUN
  obtain ⟨U, hUe⟩ := ex_eq (unkL [xs])
  rw [hUe] at HUN HMEM hlen HALL
  obtain ⟨LU, hLU⟩ := ex_eq U.length
  rw [hLU] at HUN hlen HALL
  have HLU := hide hLU
  have HFI := hide hfi
  have HRR := hide hR
  have HL0 := hide (Lst.new w (Nat.le_refl _))
  have HB0 := hide (((Below.refl w.heap.size w).alloc (Nat.le_refl _) (.cells #[] 2)).alloc (by simp) (.cells #[.slice (some ⟨b, o, none⟩) n c] 22))
  clear hOUT hUe hLU hR hk ho hfi hrs
  go_enter Try.func37, Try.ntmps37
  go_wp2_with (first | (go_at_call 53; refine H1.out.mono ?_; rintro e w' ⟨rfl, rfl⟩) | (go_at_call 65; refine HUN.out.mono ?_; rintro e w2 ⟨AU, cU, rfl, hUo, hub⟩))
  have hL2 : Lst w2 w.heap.size (.slice (some ⟨w.heap.size, 0, none⟩) 0 0) (outU U xs v 0) := (HL0.out.alloc _).below hub
  have hB2 : Below w.heap.size w w2 := HB0.out.trans (hub.mono (by simp; omega))
  have hS2 : Sep (.slice (some ⟨w.heap.size, 0, none⟩) 0 0) (.slice AU LU cU) := by
    rcases Nat.eq_zero_or_pos LU with h0 | h0
    · cases hAU : AU with
      | none => exact Sep.symm (.inl rfl)
      | some a =>
        refine .inr fun e => ?_
        have hk := (hUo.ownBlock w.heap.size (by rw [hAU]; rw [hAU] at hUo; exact e.symm)).1
        simp at hk
        omega
    · obtain ⟨g, rfl, hg, _⟩ := hUo.form h0
      refine .inr fun e => ?_
      simp [Value.ownBlock] at e
      simp at hg
      omega
  have HUO := hide hUo
  clear hub hUo
  go_loopw [6, 19] (fun u i wr => ∃ k : Nat, k ≤ LU ∧ i = .int .i64 k ∧ Lst wr w.heap.size u (outU U xs v k) ∧ Own wr w.heap.size AU LU cU U ∧ Sep u (.slice AU LU cU) ∧ Below w.heap.size w wr) (fun _ i _ => LU - (intOf i).toNat)
  case atStart => exact ⟨0, Nat.zero_le _, rfl, hL2, HUO.out.mono (by simp; omega), hS2, hB2⟩
  case round =>
    clear hL2 hB2 hS2
    obtain ⟨k, hk, rfl, hO, hU, hsep, hb⟩ := hrel
    by_cases hlt : k < LU
    · have hkx : k < U.length := by rw [HLU.out]; exact hlt
      have hst := outU_step (xs := xs) (v := v) hkx
      have hOl := outU_len U xs v k
      rw [HLU.out] at hOl
      have hgr := hb.size
      have hmem := HMEM.out (U.getD k 0) (by have e : U.getD k 0 = U[k] := by simp [List.getD, hkx]
                                             rw [e]; exact List.getElem_mem hkx)
      obtain ⟨bU, oU, eU, hbU, hcU⟩ := hU.rd.at_ hlt
      obtain ⟨S, hS⟩ := ex_eq (outU U xs v k)
      rw [hS] at hst hO hOl
      obtain ⟨x, hx⟩ := ex_eq (U.getD k 0)
      rw [hx] at hst hmem hcU
      have HFK := hide (fine_add HFI.out hmem.1 hmem.2.1 hmem.2.2)
      obtain ⟨V, hV⟩ := ex_eq (bestV xs x)
      rw [hV] at hst
      have HV := hide (show (bestL (xs ++ [x])).2 = V from hV)
      have hvr := (best_ok HFK.out (by rw [List.length_append, HL.out]; omega)).2.2.2
      rw [HV.out] at hvr
      have HST := hide hst
      have HEU := hide eU
      clear hst hV hS hx hmem hkx
      subst eU
      by_cases hv : v ≤ V
      · have HS2 := hide (show outU U xs v (k + 1) = S ++ [x] by rw [HST.out]; simp [hv])
        go_wp2_with (first | (go_at_call 66; refine (Clone_any (some ⟨b, o, none⟩) n c xs wr ((HRR.out.below hb).more hgr) (by omega) (fun h => by cases h)).mono ?_; rintro e w1 ⟨A1, c1, rfl, ho1, hb1⟩) | (at_builtin; refine wpList_app rfl (.tmp 25) (.tmp 27) rfl wr.heap.size _ xs [x] rfl ((Lst.of ho1).alloc _) (some ⟨w1.heap.size, 0, none⟩) 1 1 rfl (rd_one w1 x 2) (fun h => by cases h) (by rw [HL.out]; omega) (by simp; have := hb1.size; omega) ?_; intro v2 w2 ho2 hg2 hbk2; have hb2 := (hb1.alloc hb1.size (.cells #[.int .i64 x] 2)).grown hg2 (by simp; have := hb1.size; omega) (fun k hk => (((Lst.of ho1).alloc (.cells #[.int .i64 x] 2)).blk k hk).1); obtain ⟨A2, c2, rfl, ho2'⟩ := ho2.formn (n := n + 1) (by simp [HL.out]); have HBE := hide (bestFive_any A2 (n + 1) c2 (xs ++ [x]) w2 ho2'.rd (by omega) (by omega) HFK.out); rw [HV.out] at HBE) | (go_at_call 60; refine HBE.out.mono ?_; rintro e w3 ⟨v3, rfl, _, hb3⟩; have hb4 := hb2.trans (hb3.mono hb2.size); have hO3 : Lst w3 w.heap.size u6 S := hO.below hb4; have hU3 := hU.below hb4 (Nat.le_refl _); have hb5 := hb.trans (hb4.mono hgr); have hg5 := hb5.size) | (at_builtin; refine wpList_app rfl (.tmp 35) (.tmp 37) rfl w.heap.size _ S [x] rfl (hO3.alloc _) (some ⟨w3.heap.size, 0, none⟩) 1 1 rfl (rd_one w3 x 2) (fun h => by cases h) (by omega) (by simp; omega) ?_; intro v4 w4 ho4 hg4 hbk4))
        have hb6 := (hb5.alloc hg5 (.cells #[.int .i64 x] 2)).grown hg4 (by simp; omega) (fun k hk => ((hO3.alloc (.cells #[.int .i64 x] 2)).blk k hk).1)
        have ho4' : Lst w4 w.heap.size v4 (outU U xs v (k + 1)) := by rw [HS2.out]; exact ho4
        have hU4 : Own w4 w.heap.size _ LU cU U := World.ownsRow.kept (h := hU3.alloc (.cells #[.int .i64 x] 2)) hg4 hsep.symm
        have hsep4 : Sep v4 _ := Sep.app hsep hbk4 (fun k hk => by have := ((hU3.alloc (.cells #[.int .i64 x] 2)).ownBlock k hk).2; exact this)
        clear ho4 hg4 hbk4 hO3 hb5
        go_roundw
        case rel => exact ⟨k + 1, by omega, by go_num, ho4', hU4, hsep4, hb6⟩
        case measure => simp [intOf]; omega
      · have HS2 := hide (show outU U xs v (k + 1) = S by rw [HST.out]; simp [hv])
        go_wp2_with (first | (go_at_call 66; refine (Clone_any (some ⟨b, o, none⟩) n c xs wr ((HRR.out.below hb).more hgr) (by omega) (fun h => by cases h)).mono ?_; rintro e w1 ⟨A1, c1, rfl, ho1, hb1⟩) | (at_builtin; refine wpList_app rfl (.tmp 25) (.tmp 27) rfl wr.heap.size _ xs [x] rfl ((Lst.of ho1).alloc _) (some ⟨w1.heap.size, 0, none⟩) 1 1 rfl (rd_one w1 x 2) (fun h => by cases h) (by rw [HL.out]; omega) (by simp; have := hb1.size; omega) ?_; intro v2 w2 ho2 hg2 hbk2; have hb2 := (hb1.alloc hb1.size (.cells #[.int .i64 x] 2)).grown hg2 (by simp; have := hb1.size; omega) (fun k hk => (((Lst.of ho1).alloc (.cells #[.int .i64 x] 2)).blk k hk).1); obtain ⟨A2, c2, rfl, ho2'⟩ := ho2.formn (n := n + 1) (by simp [HL.out]); have HBE := hide (bestFive_any A2 (n + 1) c2 (xs ++ [x]) w2 ho2'.rd (by omega) (by omega) HFK.out); rw [HV.out] at HBE) | (go_at_call 60; refine HBE.out.mono ?_; rintro e w3 ⟨v3, rfl, _, hb3⟩; have hb4 := hb2.trans (hb3.mono hb2.size); have hO3 : Lst w3 w.heap.size u6 S := hO.below hb4; have hU3 := hU.below hb4 (Nat.le_refl _); have hb5 := hb.trans (hb4.mono hgr); have hg5 := hb5.size))
        go_roundw
        case rel => exact ⟨k + 1, by omega, by go_num, by rw [HS2.out]; exact hO3, hU3, hsep, hb5⟩
        case measure => simp [intOf]; omega
    · have hkL : k = LU := by omega
      rw [hkL, HALL.out LU (Nat.le_refl _)] at hO
      obtain ⟨A', c', rfl, ho⟩ := hO.form
      clear hkL hO
      go_wp2
      go_ret2
      exact ⟨A', c', rfl, ho, hb⟩

end Go.Proofs.Ytlldocdmjeeaaaa.hand
