/-
  The cards that are not known, in the reference; the greatest of a list. Conditions: those of each theorem.
-/
import Derived.Test.YtlldocdmjeeaaaaCan
import Derived.Test.YtlldocdmjeeaaaaAppS
namespace Go.Proofs.Ytlldocdmjeeaaaa.hand
open Go.RowKit
open base mem grid

def knT (pss : List (List Int)) (bs : List Int) (x : Int) (j : Nat) : Bool := hasB bs x || anyB (pss.take j) x
theorem knT_step {pss : List (List Int)} {bs : List Int} {x : Int} {j : Nat} (hj : j < pss.length) : knT pss bs x (j + 1) = (knT pss bs x j || hasB (pss.getD j []) x) := by
  have e : pss.getD j [] = pss[j] := by simp [List.getD, hj]
  unfold knT anyB
  rw [List.take_succ_eq_append_getElem hj, List.any_append, e, ← Bool.or_assoc]
  simp
theorem knT_all {pss : List (List Int)} {bs : List Int} {x : Int} {m : Nat} (hm : pss.length = m) : knT pss bs x m = anyB (pss ++ [bs]) x := by
  unfold knT anyB
  rw [List.take_of_length_le (by omega), List.any_append, Bool.or_comm]
  simp

set_option maxRecDepth 100000 in
set_option maxHeartbeats 4000000 in
theorem l03Left_any (A : Option Addr) (m c : Nat) (ts : List Sl) (A2 : Option Addr) (n c2 : Nat) (bs : List Int) (w : World) (hR : RdS w w.heap.size A m ts) (hm : m ≤ 1048576) (hM : ∀ t ∈ ts, t.n ≤ 1048576) (hY : Rd w w.heap.size A2 n bs) (hn : n ≤ 1048576) :
    Calls Try.prog 74 #[.slice A m c, .slice A2 n c2] w fun e w' => ∃ A' c', e = .returned (.slice A' (unkL (con ts ++ [bs])).length c') ∧ Own w' w.heap.size A' (unkL (con ts ++ [bs])).length c' (unkL (con ts ++ [bs])) ∧ Below w.heap.size w w' := by
  have hl : (con ts).length = m := by rw [con_len, hR.len]
  have HL := hide hl
  have HM := hide hM
  have HFIN : Hid (unkT (con ts ++ [bs]) 52 = unkL (con ts ++ [bs])) := rfl
  have HHB := hide (fun (x : Int) (q : World) (hb : Below w.heap.size w q) => l00Has_any A2 n c2 bs x w.heap.size q (hY.below hb) (by omega))
  obtain ⟨U, hU⟩ := ex_eq (unkL (con ts ++ [bs]))
  rw [hU] at HFIN ⊢
  have HL0 := hide (Lst.new w (Nat.le_refl _))
  have HB0 := hide ((Below.refl w.heap.size w).alloc (Nat.le_refl _) (.cells #[] 2))
  clear hU hM hY hl
  go_enter Try.func74, Try.ntmps74
  go_wp2
  go_loopw [5, 6] (fun v i wr => ∃ k : Nat, k ≤ 52 ∧ i = .int .i64 k ∧ Lst wr w.heap.size v (unkT (con ts ++ [bs]) k) ∧ Below w.heap.size w wr) (fun _ i _ => 52 - (intOf i).toNat)
  case atStart => exact ⟨0, Nat.zero_le _, rfl, HL0.out, HB0.out⟩
  case round =>
    obtain ⟨k, hk, rfl, hO, hb⟩ := hrel
    by_cases hlt : k < 52
    · have hst := unkT_step (con ts ++ [bs]) k
      have hOl := unkT_len (con ts ++ [bs]) k
      have hgr := hb.size
      have HHK := hide (HHB.out (k : Int) wr hb)
      have hk0 : hasB bs (k : Int) = knT (con ts) bs (k : Int) 0 := by unfold knT anyB; simp
      rw [hk0] at HHK
      obtain ⟨K0, hK0⟩ := ex_eq (knT (con ts) bs (k : Int) 0)
      rw [hK0] at HHK
      have HK0 := hide hK0
      obtain ⟨S, hS⟩ := ex_eq (unkT (con ts ++ [bs]) k)
      rw [hS] at hst hO hOl
      have HST := hide hst
      obtain ⟨wo, rfl⟩ : ∃ wo : World, wo = wr := ⟨_, rfl⟩
      clear hst hS hk0 hK0
      have d2 : decide ((k : Int) < 52) = true := decide_eq_true (by omega)
      go_wp2_with (go_at_call 64; refine HHK.out.mono ?_; rintro e w' ⟨rfl, rfl⟩)
      go_loopw [7, 19] (fun kn i wr => ∃ (j q : Nat) (kb : Bool), j ≤ m ∧ i = .int .i64 j ∧ kn = .bool kb ∧ Hid (knT (con ts) bs (k : Int) j = kb) ∧ Hid (wr = wo.drewN q)) (fun _ i _ => m - (intOf i).toNat)
      case atStart => exact ⟨0, 0, K0, Nat.zero_le _, rfl, rfl, HK0, rfl⟩
      case round =>
        obtain ⟨j, q, kb, hj, rfl, rfl, hkb, hw⟩ := hrel
        by_cases hjm : j < m
        · have hjx : j < (con ts).length := by rw [HL.out]; exact hjm
          have hbq : Below w.heap.size w wr := by rw [hw.out]; exact bdrewN hb q
          obtain ⟨b, o, t, rfl, hbB, ht, hc, hok⟩ := (hR.below hbq).at_ hjm
          have hcd := con_getU ht
          have hks := knT_step (bs := bs) (x := (k : Int)) hjx
          rw [hcd, hkb.out] at hks
          have HU := hide (l00Has_any t.A t.n t.c t.xs (k : Int) w.heap.size wr hok.1 (by have := HM.out t (List.mem_of_getElem? ht); omega))
          obtain ⟨hx, hhx⟩ := ex_eq (hasB t.xs (k : Int))
          rw [hhx] at HU hks
          have HKS := hide hks
          clear hcd hjx ht hok hR hhx hks hbq
          obtain ⟨tA, tn, tc, txs⟩ := t
          simp only at hc HU
          cases kb
          · go_wp2_with (go_at_call 64; refine HU.out.mono ?_; rintro e w' ⟨rfl, rfl⟩)
            go_roundw
            case rel => exact ⟨j + 1, q, hx, by omega, by go_num, rfl, by rw [HKS.out]; rfl, hw⟩
            case measure => simp [intOf]; omega
          · go_wp2
            go_roundw
            case rel => exact ⟨j + 1, q, true, by omega, by go_num, rfl, by rw [HKS.out]; rfl, hw⟩
            case measure => simp [intOf]; omega
        · have hjn : j = m := by omega
          have hka := knT_all (bs := bs) (x := (k : Int)) HL.out
          rw [← hjn, hkb.out] at hka
          have d3 : decide ((j : Int) < (m : Int)) = false := decide_eq_false (by omega)
          have hO2 : Lst wr w.heap.size u5 S := by rw [hw.out]; exact hO.drewN q
          have hb2 : Below w.heap.size w wr := by rw [hw.out]; exact bdrewN hb q
          have hg2 := hb2.size
          cases kb
          · have HS2 := hide (show unkT (con ts ++ [bs]) (k + 1) = S ++ [(k : Int)] by rw [HST.out, ← hka]; rfl)
            clear hjn hka hO hb hw
            go_wp2_with (at_builtin; refine wpList_app rfl (.tmp 34) (.tmp 36) rfl w.heap.size _ S [(k : Int)] rfl (hO2.alloc _) (some ⟨wr.heap.size, 0, none⟩) 1 1 rfl (rd_one wr (k : Int) 2) (fun h => by cases h) (by omega) (by simp; omega) ?_; intro v4 w4 ho4 hg4 hbk4)
            have hb4 := (hb2.alloc hg2 (.cells #[.int .i64 (k : Int)] 2)).grown hg4 (by simp; omega) (fun k hk => ((hO2.alloc (.cells #[.int .i64 (k : Int)] 2)).blk k hk).1)
            have ho4' : Lst w4 w.heap.size v4 (unkT (con ts ++ [bs]) (k + 1)) := by rw [HS2.out]; exact ho4
            clear ho4 hg4 hbk4 hO2 hb2
            go_roundw
            case rel => exact ⟨k + 1, by omega, by go_num, ho4', hb4⟩
            case measure => simp [intOf]; omega
          · have HS2 := hide (show unkT (con ts ++ [bs]) (k + 1) = S by rw [HST.out, ← hka]; rfl)
            clear hjn hka hO hb hw
            go_wp2
            go_roundw
            case rel => exact ⟨k + 1, by omega, by go_num, by rw [HS2.out]; exact hO2, hb2⟩
            case measure => simp [intOf]; omega
    · have hk52 : k = 52 := by omega
      rw [hk52, HFIN.out] at hO
      obtain ⟨A', c', rfl, ho⟩ := hO.form
      clear hk52 hO
      go_wp2
      go_ret
      exact ⟨A', c', rfl, ho, hb⟩
/-! ### the greatest of a list -/
def maxT (xs : List Int) : Nat → Int
  | 0 => xs.getD 0 0
  | k + 1 => max (maxT xs k) (xs.getD (k + 1) 0)
set_option maxHeartbeats 1000000 in
theorem Max_any (A : Option Addr) (n c : Nat) (xs : List Int) (B : Nat) (w : World) (hR : Rd w B A (n + 1) xs) (hn : n ≤ 1000) :
    Calls Try.prog 103 #[.slice A (n + 1) c] w fun e w' => e = .returned (.int .i64 (maxT xs n)) ∧ ∃ q, w' = w.drewN q := by
  obtain ⟨b, o, rfl, hbB, hc0⟩ := hR.2 (by omega)
  have hc00 := hc0 0 (by omega)
  rw [Nat.add_zero] at hc00
  have HC := hide hc0
  obtain ⟨E, hE⟩ := ex_eq (maxT xs n)
  rw [hE]
  have HE := hide hE
  have h0 : maxT xs 0 = xs.getD 0 0 := rfl
  have H0 := hide h0
  obtain ⟨x0, hx0⟩ := ex_eq (xs.getD 0 0)
  rw [hx0] at hc00 h0
  have H00 := hide h0
  clear hR hc0 hE h0 hx0
  go_enter Try.func103, Try.ntmps103
  go_wp2
  go_loopw [3, 4] (fun mx i wr => ∃ k q : Nat, k ≤ n ∧ i = .int .i64 ((k : Int) + 1) ∧ mx = .int .i64 (maxT xs k) ∧ Hid (wr = w.drewN q)) (fun _ i _ => n + 1 - (intOf i).toNat)
  case atStart => exact ⟨0, 0, Nat.zero_le _, rfl, by rw [H00.out], rfl⟩
  case round =>
    obtain ⟨k, q, hk, rfl, rfl, hw⟩ := hrel
    by_cases hlt : k < n
    · have hc := HC.out (k + 1) (by omega)
      have hcw : wr.cell? ⟨b, o + (k + 1), none⟩ = some (.int .i64 (xs.getD (k + 1) 0)) := by rw [hw.out]; exact hc
      have hst : maxT xs (k + 1) = max (maxT xs k) (xs.getD (k + 1) 0) := rfl
      obtain ⟨M, hM⟩ := ex_eq (maxT xs k)
      obtain ⟨x, hx⟩ := ex_eq (xs.getD (k + 1) 0)
      rw [hM, hx] at hst
      rw [hx] at hcw
      rw [hM]
      have HST := hide hst
      clear hst hM hx hc hc00
      go_wp2
      go_roundw
      case rel => exact ⟨k + 1, q, by omega, by go_num, by rw [HST.out], hw⟩
      case measure => simp [intOf]; omega
    · have hkn : k = n := by omega
      have HF := hide (show maxT xs k = E by rw [hkn]; exact HE.out)
      obtain ⟨M, hM⟩ := ex_eq (maxT xs k)
      rw [hM] at HF ⊢
      clear hkn hM hc00
      go_wp2
      go_ret
      exact ⟨ret_int HF.out, q, hw.out⟩

end Go.Proofs.Ytlldocdmjeeaaaa.hand
