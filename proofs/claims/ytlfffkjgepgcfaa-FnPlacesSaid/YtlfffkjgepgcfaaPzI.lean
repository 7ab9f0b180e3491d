/-
  The program's PrizeShares answers what Pz tells. Conditions: those of each theorem.
-/
import Derived.Test.YtlfffkjgepgcfaaPcI
import Derived.Test.YtlfffkjgepgcfaaPz
import Derived.Deep.AppendLies
namespace Go.Proofs.Ytlfffkjgepgcfaa.pl
open Go.RowKit
open base mem fl chance Go.Maps
open Ieee

set_option maxRecDepth 10000 in
set_option maxHeartbeats 8000000 in
theorem impl_PrizeShares (A : Option Addr) (n c : Nat) (xs : List Int) (A2 : Option Addr) (m c2 : Nat) (ps : List Int) (w : World) (hR : Rd w w.heap.size A n xs) (hn : n ≤ 1048576) (_hnc : n ≤ c) (hR2 : Rd w w.heap.size A2 m ps) (hm : m ≤ 1048576) (_hmc : m ≤ c2) :
    Calls Try.prog 35 #[.slice A n c, .slice A2 m c2] w fun e w' => ∃ A' c', e = .returned (.tuple #[.slice A' (psOut xs ps).length c', .bool (psOk xs ps)]) ∧ OwnF w' w.heap.size A' (psOut xs ps).length c' (psOut xs ps) ∧ Below w.heap.size w w' := by
  have HT := hide (areStacks_any A n c xs _ w hR hn)
  have HB := hide (przC_any A2 m c2 ps _ w hR2 hm)
  have HKD := hide (show psOk xs ps = (sqOk xs && (decide (m = n) && !badB 1000000 0 ps)) by unfold psOk; rw [hR.len, hR2.len])
  cases hq : sqOk xs
  · have hK : psOk xs ps = false := by rw [HKD.out, hq]; rfl
    have hO : psOut xs ps = [] := by simp [psOut, hK]
    rw [hO, hK]
    rw [hq] at HT
    clear hO hq hK HB hR hR2
    go_enter Try.func35, Try.ntmps35
    go_wp2_with (first | (go_at_call 64; refine HT.out.mono ?_; rintro e w' ⟨rfl, rfl⟩))
    go_ret2
    exact ⟨none, 0, rfl, OwnF.nil _ _, Below.refl _ _⟩
  by_cases hmn : m = n
  rotate_left
  · have hK : psOk xs ps = false := by rw [HKD.out]; simp [hmn]
    have hO : psOut xs ps = [] := by simp [psOut, hK]
    have hb : ((m : Int) != (n : Int)) = true := by rw [bne_iff_ne]; omega
    rw [hO, hK]
    rw [hq] at HT
    clear hO hq hK HB hR hR2 hmn
    go_enter Try.func35, Try.ntmps35
    go_wp2_with (first | (go_at_call 64; refine HT.out.mono ?_; rintro e w' ⟨rfl, rfl⟩))
    go_ret2
    exact ⟨none, 0, rfl, OwnF.nil _ _, Below.refl _ _⟩
  subst hmn
  cases hbd : badB 1000000 0 ps
  rotate_left
  · have hK : psOk xs ps = false := by rw [HKD.out, hbd]; simp
    have hO : psOut xs ps = [] := by simp [psOut, hK]
    rw [hO, hK]
    rw [hq] at HT
    rw [hbd] at HB
    clear hO hq hK hR hR2
    go_enter Try.func35, Try.ntmps35
    go_wp2_with (first | (go_at_call 64; refine HT.out.mono ?_; rintro e w' ⟨rfl, rfl⟩) | (go_at_call 67; refine HB.out.mono ?_; rintro e w' ⟨rfl, rfl⟩))
    go_ret2
    exact ⟨none, 0, rfl, OwnF.nil _ _, Below.refl _ _⟩
  · obtain ⟨g, hx1⟩ := sqOk_good hq
    have hK : psOk xs ps = true := by rw [HKD.out, hbd, hq]; simp
    have hxn := hR.len
    have hO : psOut xs ps = psTo xs ps m := by simp [psOut, hK, hxn]
    have hfew := g.few
    rw [hxn] at hfew hx1
    rw [hO, hK]
    rw [hq] at HT
    rw [hbd] at HB
    obtain ⟨b, o, rfl, hb, _⟩ := hR.2 (by omega)
    have HPG := hide (fun k (hk : k < m) => bad_at hbd (j := k) (by rw [hR2.len]; exact hk))
    have hsh := shl_full m hfew
    have hszV : (w.alloc (.cells #[] 25)).heap.size = w.heap.size + 1 := by simp
    have HP := placesAll_raw xs g b o m c hxn hx1 (w.alloc (.cells #[] 25)) ((hR.alloc (Nat.le_refl _) _).more (by rw [hszV]; omega))
    rw [hszV] at HP
    have HP := hide HP
    have HB0 := hide ((Below.refl w.heap.size w).alloc (Nat.le_refl _) (.cells #[] 25))
    have HN0 := hide (LstF.new w (Nat.le_refl w.heap.size))
    have HPN := hide hR2.len
    obtain ⟨S, hS⟩ := ex_eq (2 ^ m - 1)
    have HS2 := hide hS
    rw [hS] at hsh HP
    have hmm := @run_makeMap Try.prog
    have HXN := hide hxn
    clear hO hq hxn hS hK hbd
    go_enter Try.func35, Try.ntmps35
    go_wp2_with (first | (go_at_call 64; refine HT.out.mono ?_; rintro e w' ⟨rfl, rfl⟩) | (go_at_call 67; refine HB.out.mono ?_; rintro e w' ⟨rfl, rfl⟩))
    refine HP.out.mono ?_
    rintro e w2 ⟨AT, rfl, hPl, hb2⟩
    rw [← HS2.out] at hPl
    obtain ⟨gt, rfl, hg1, hg2, hrow⟩ := plc_cells HXN.out hfew hPl
    have HROW := hide hrow
    have hb3 : Below w.heap.size w w2 := HB0.out.trans (hb2.mono (by omega))
    have HN2 := hide (HN0.out.below (by rw [hszV]; exact hb2))
    have hsz2 : w.heap.size + 1 ≤ w2.heap.size := by have := hb2.size; rw [hszV] at this; exact this
    have HF0 := hide (show ∀ p : Addr, w.heap.size + 1 + 1 ≤ p.block → p.block < w2.heap.size → w2.cell? p = w2.cell? p from fun _ _ _ => rfl)
    have HV0 := hide (show ∀ q, (Value.slice (some ⟨w.heap.size, 0, none⟩) 0 0).ownBlock = some q → q < w.heap.size + 1 + 1 ∨ w2.heap.size ≤ q from fun q hq => by cases hq; exact .inl (show w.heap.size < w.heap.size + 1 + 1 by omega))
    clear HT HB HP hPl hb2 hrow HB0 HN0 hszV
    obtain ⟨hi2, hhi⟩ := ex_eq w2.heap.size
    obtain ⟨G, hG⟩ := ex_eq w.heap.size
    rw [hhi] at HF0 HV0 hsz2 hg2 HROW
    rw [hG] at HF0 HV0 hsz2 hg1 HROW HN2 hb3 hR2
    have HG := hide hG
    have HHI := hide hhi
    have hhi2 : hi2 ≤ w2.heap.size := by omega
    clear hhi
    go_wp2
    clear hG
    go_loopw [6, 35] (fun v i wz => ∃ i' : Nat, i' ≤ m ∧ i = .int .i64 i' ∧ Hid (LstF wz G v (psTo xs ps i')) ∧ Below G w wz ∧ Hid (∀ p : Addr, G + 1 + 1 ≤ p.block → p.block < hi2 → wz.cell? p = w2.cell? p) ∧ Hid (∀ q, v.ownBlock = some q → q < G + 1 + 1 ∨ hi2 ≤ q) ∧ hi2 ≤ wz.heap.size) (fun _ i _ => m - (intOf i).toNat)
    case atStart => exact ⟨0, Nat.zero_le _, rfl, HN2, hb3, (fun _ _ _ => rfl), HV0, hhi2⟩
    case round =>
      clear HN2 hb3 HF0 HV0 hhi2
      obtain ⟨i, hi, rfl, HN, hbr, HF, HV, hhi⟩ := hrel
      by_cases hlt : i < m
      · obtain ⟨r, rl, rh, hc1, hc2⟩ := HROW.out i hlt
        have hcr := (HF.out ⟨gt, i, none⟩ hg1 hg2).trans hc1
        have HC2 := hide (fun k (hk : k < m) => (HF.out ⟨r, k, none⟩ rl rh).trans (hc2 k hk))
        have h0 : (0 : Int) ≤ (i : Int) := by omega
        have h1 : (i : Int) < (m : Int) := by omega
        clear hc1 hc2
        go_wp2
        clear hcr
        go_loop [9, 41] (fun a j => ∃ k : Nat, k ≤ m ∧ j = .int .i64 k ∧ a = .float .f32 (prW xs ps i k)) (fun _ j => m - (intOf j).toNat)
        case atStart => exact ⟨0, Nat.zero_le _, rfl, rfl⟩
        case round =>
          obtain ⟨k, hk, rfl, rfl⟩ := hrel
          by_cases hlt2 : k < m
          · have hcc := HC2.out k hlt2
            obtain ⟨b2, o2, rfl, _, hcp⟩ := (hR2.below hbr).at_ hlt2
            have hops := (prize_big g (ps := ps) (i := i) (by rw [HXN.out]; exact hlt) (m := k + 1) (by rw [HXN.out]; exact hlt2) (fun j hj => (fun h => ⟨h.1, h.2⟩) (HPG.out j (by omega)))).2 k (Nat.lt_succ_self k)
            obtain ⟨p, hp⟩ := ex_eq (ps.getD k 0)
            rw [hp] at hcp hops
            obtain ⟨c3, hc3⟩ := ex_eq (PL xs k allL i)
            rw [hc3] at hcc hops
            obtain ⟨a, ha⟩ := ex_eq (prW xs ps i k)
            rw [ha] at hops ⊢
            obtain ⟨a2, ha2⟩ := ex_eq (prW xs ps i (k + 1))
            rw [ha2] at hops
            have HA2 := hide ha2
            obtain ⟨q, hq⟩ := ex_eq (mulW c3 (FloatKind.f32.nearest p))
            rw [hq] at hops
            have r2 : ∀ w, (binOp .mul 25 (.float .f32 c3) (.float .f32 (floatOfInt .f32 p))).run Try.prog w = .ok (.float .f32 q) w := fun w => run_float_arith (P := Try.prog) w .mul 25 .f32 _ _ _ hops.1
            have r3 : ∀ w, (binOp .add 25 (.float .f32 a) (.float .f32 q)).run Try.prog w = .ok (.float .f32 a2) w := fun w => run_float_arith (P := Try.prog) w .add 25 .f32 _ _ _ hops.2
            have h2 : (0 : Int) ≤ (k : Int) := by omega
            have h3 : (k : Int) < (m : Int) := by omega
            clear hp hc3 ha ha2 hq hops
            go_wp2
            go_round
            case rel => exact ⟨k + 1, by omega, by go_num, by rw [HA2.out]⟩
            case measure => simp [intOf]; omega
          · obtain rfl : k = m := by omega
            have hgr : G ≤ wr.heap.size := by have := hbr.size; have := HG.out; omega
            have HNX := hide (psTo_succ xs ps i)
            have hlen : (psTo xs ps i).length ≤ 1000 := by rw [psTo_len]; omega
            rw [HXN.out] at HNX
            obtain ⟨ys, hys⟩ := ex_eq (psTo xs ps i)
            obtain ⟨p, hp⟩ := ex_eq (prW xs ps i k)
            rw [hys] at HN HNX hlen
            rw [hp] at HNX ⊢
            clear hys hp HC2
            go_wp2_with (at_builtin; refine wpList_appF rfl (.tmp 56) (.tmp 58) rfl G _ ys [p] rfl (HN.out.alloc _) (some ⟨wr.heap.size, 0, none⟩) 1 1 rfl (rdF_one wr p 25) (fun h => by cases h) (by omega) (by simp; omega) ?_; intro v4 w4 ho4 hg4 hb4)
            have hbb := (HN.out.alloc (.cells #[.float .f32 p] 25)).grown hg4 (by simp; omega)
            have hb5 := hbr.trans (((Below.refl G wr).alloc hgr _).trans hbb)
            have HNn := hide (show LstF w4 G v4 (psTo xs ps (i + 1)) by rw [HNX.out]; exact ho4)
            have hsz4 : wr.heap.size + 1 ≤ w4.heap.size := by have := hg4.size; simpa using this
            have HFn := hide (show ∀ p : Addr, G + 1 + 1 ≤ p.block → p.block < hi2 → w4.cell? p = w2.cell? p from fun p h1 h2 => by
              rw [hg4.cell_far p (by simp; omega) (fun e => by rcases HV.out p.block e.symm with h | h <;> omega), World.cell?_alloc_lt _ _ _ (by omega)]
              exact HF.out p h1 h2)
            have HVn := hide (show ∀ q, v4.ownBlock = some q → q < G + 1 + 1 ∨ hi2 ≤ q from fun q hq => by
              rcases hb4 with h | h
              · exact HV.out q (h ▸ hq)
              · rw [h] at hq
                cases hq
                right
                simp; omega)
            have hhn : hi2 ≤ w4.heap.size := by omega
            clear hb4 hg4 ho4 hbb HN HF HV hsz4 hhi
            go_wp2
            go_roundw
            case rel => exact ⟨i + 1, by omega, by go_num, HNn, hb5, HFn, HVn, hhn⟩
            case measure => simp [intOf]; omega
      · obtain rfl : i = m := by omega
        obtain ⟨AO, cO, rfl, hO⟩ := HN.out.form
        clear HN HF HV
        go_wp2
        go_ret2
        exact ⟨AO, cO, rfl, by rw [HG.out]; exact hO, by rw [HG.out]; exact hbr⟩
end Go.Proofs.Ytlfffkjgepgcfaa.pl
