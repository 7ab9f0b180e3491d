/-
  The reference's l03Place, l03Stacks and PlaceChances answer what Pl tells. Conditions: those of each theorem.
-/
import Derived.Test.YtlfffkjgepgcfaaMemF
namespace Go.Proofs.Ytlfffkjgepgcfaa.pl
open Go.RowKit
open base mem fl
open Ieee

def lvs (L : Nat → Bool) (n : Nat) : List Bool := (List.range n).map L
theorem lvs_len (L : Nat → Bool) (n : Nat) : (lvs L n).length = n := by simp [lvs]
theorem lvs_getD {L : Nat → Bool} {n k : Nat} (h : k < n) : (lvs L n).getD k false = L k := by simp [lvs, List.getD, h]
theorem lvs_set (L : Nat → Bool) (n m : Nat) : (lvs L n).set m false = lvs (rm L m) n := by
  apply List.ext_getElem
  · simp [lvs]
  · intro k h1 h2
    simp [lvs, rm, List.getElem_set]
    by_cases h : m = k
    · simp [h]
    · have h' : (k != m) = true := by simpa using fun e => h e.symm
      have h3 : decide (m = k) = false := decide_eq_false h
      rw [h3, h', Bool.and_true]; rfl
theorem lvs_back {L : Nat → Bool} {m : Nat} (n : Nat) (hL : L m = true) : (lvs (rm L m) n).set m true = lvs L n := by
  apply List.ext_getElem
  · simp [lvs]
  · intro k h1 h2
    simp [lvs, rm, List.getElem_set]
    by_cases h : m = k
    · subst h; simp [hL]
    · have h' : (k != m) = true := by simpa using fun e => h e.symm
      have h3 : decide (m = k) = false := decide_eq_false h
      rw [h3, h', Bool.and_true]; rfl
theorem acc_skip {L : Nat → Bool} {i t : Nat} (q p : Nat → Nat) (h : L t = false ∨ t = i) : accL L i q p (t + 1) = accL L i q p t := by
  show (if _ then _ else _) = _
  rw [if_neg]
  rcases h with h | h <;> simp [h]
theorem sum_step (xs : List Int) (L : Nat → Bool) (m : Nat) : sumL xs L (m + 1) = sumL xs L m + if L m then xs.getD m 0 else 0 := rfl

/-- l03Place at place k answers PL -/
def PlaceC (xs : List Int) (AS AL : Option Addr) (n c cL B i k : Nat) : Prop := ∀ (L : Nat → Bool) (w : World), k ≤ 8 → L i = true → B ≤ w.heap.size → Rd w B AS n xs → OwnB w B AL n cL (lvs L n) →
    Calls Try.prog 63 #[.slice AS n c, .slice AL n cL, .int .i64 i, .int .i64 k] w fun e w' => e = .returned (.float .f32 (PL xs k L i)) ∧ OwnB w' B AL n cL (lvs L n) ∧ w.grownBy w' (Value.slice AL n cL).ownBlock

set_option maxHeartbeats 4000000 in
theorem place_zero (xs : List Int) (g : Good xs) (AS AL : Option Addr) (n c cL B : Nat) (hn : xs.length = n) (i : Nat) (hi : i < n) : PlaceC xs AS AL n c cL B i 0 := by
  intro L w hk hL hB hR hO
  have hf := g.few
  rw [hn] at hf
  have HX : True := trivial
  have hRl := hO.rd
  have hcL := hO.ownBlock
  go_enter Try.func63, Try.ntmps63
  go_wp2
  go_loop [9, 16] (fun s m => ∃ j : Nat, j ≤ n ∧ m = .int .i64 j ∧ s = .int .i64 (sumL xs L j)) (fun _ m => n - (intOf m).toNat)
  case atStart => exact ⟨0, Nat.zero_le _, rfl, rfl⟩
  case round =>
    obtain ⟨j, hj, rfl, rfl⟩ := hrel
    by_cases hlt : j < n
    · obtain ⟨b, o, rfl, hbB, hc⟩ := hR.at_ hlt
      obtain ⟨b', o', rfl, hbB', hc'⟩ := hRl.at_ hlt
      rw [lvs_getD hlt] at hc'
      have hst := sum_step xs L j
      have b1 := sumL_bd g j (by omega) (L := L)
      have b2 := g.lo j (by omega)
      have b3 := g.hi j (by omega)
      obtain ⟨x, hx⟩ := ex_eq (xs.getD j 0)
      obtain ⟨S, hS⟩ := ex_eq (sumL xs L j)
      rw [hx] at hc b2 b3 hst
      rw [hS] at b1 hst ⊢
      have h0 : (0 : Int) ≤ (j : Int) := by omega
      have h1 : (j : Int) < (n : Int) := by omega
      cases hl : L j
      all_goals
        rw [hl] at hc' hst
        have HST := hide hst
        clear hR hRl hO hx hS hl hst hcL HX
        go_wp2
        go_round
        case rel => exact ⟨j + 1, by omega, by go_num, int_congr (by rw [HST.out]; simp)⟩
        case measure => simp [intOf]; omega
    · obtain rfl : j = n := by omega
      have b1 := sumL_bd g j (by omega) (L := L)
      have hsl := sumL_pos g (by omega) hL (i := i)
      rw [hn] at hsl
      obtain ⟨b, o, rfl, hbB, hc⟩ := hR.at_ hi
      have h0 : (0 : Int) ≤ (i : Int) := by omega
      have h1 : (i : Int) < (j : Int) := by omega
      have hq := (qL_ok g (show i < xs.length by omega) hL (show i < xs.length by omega) hL).1
      rw [hn] at hq
      obtain ⟨q, hQ⟩ := ex_eq (qL xs L i)
      have HQ := hide hQ
      rw [hQ] at hq
      obtain ⟨S, hS⟩ := ex_eq (sumL xs L j)
      rw [hS] at hq b1 ⊢
      obtain ⟨x, hx⟩ := ex_eq (xs.getD i 0)
      rw [hx] at hc hq
      have r1 : ∀ w, (binOp .quo 25 (.float .f32 (floatOfInt .f32 x)) (.float .f32 (floatOfInt .f32 S))).run Try.prog w = .ok (.float .f32 q) w := fun w => run_float_arith (P := Try.prog) w .quo 25 .f32 _ _ _ hq
      have HO := hide hO
      clear hq hQ hS hx hR hRl hO hcL b1 hsl HX
      go_wp2
      go_ret
      exact ⟨by rw [← HQ.out]; rfl, HO.out, World.grownBy.refl w _⟩

set_option maxHeartbeats 8000000 in
theorem place_succ (xs : List Int) (g : Good xs) (AS AL : Option Addr) (n c cL B : Nat) (hn : xs.length = n) (i : Nat) (hi : i < n) (k : Nat) (ih : PlaceC xs AS AL n c cL B i k) : PlaceC xs AS AL n c cL B i (k + 1) := by
  intro L w hk hL hB hR hO
  have HI := hide ih
  clear ih
  have hf := g.few
  rw [hn] at hf
  have HX : True := trivial
  have hRl := hO.rd
  have hcL := hO.ownBlock
  go_enter Try.func63, Try.ntmps63
  go_wp2
  go_loop [9, 16] (fun s m => ∃ j : Nat, j ≤ n ∧ m = .int .i64 j ∧ s = .int .i64 (sumL xs L j)) (fun _ m => n - (intOf m).toNat)
  case atStart => exact ⟨0, Nat.zero_le _, rfl, rfl⟩
  case round =>
    obtain ⟨j, hj, rfl, rfl⟩ := hrel
    by_cases hlt : j < n
    · obtain ⟨b, o, rfl, hbB, hc⟩ := hR.at_ hlt
      obtain ⟨b', o', rfl, hbB', hc'⟩ := hRl.at_ hlt
      rw [lvs_getD hlt] at hc'
      have hst := sum_step xs L j
      have b1 := sumL_bd g j (by omega) (L := L)
      have b2 := g.lo j (by omega)
      have b3 := g.hi j (by omega)
      obtain ⟨x, hx⟩ := ex_eq (xs.getD j 0)
      obtain ⟨S, hS⟩ := ex_eq (sumL xs L j)
      rw [hx] at hc b2 b3 hst
      rw [hS] at b1 hst ⊢
      have h0 : (0 : Int) ≤ (j : Int) := by omega
      have h1 : (j : Int) < (n : Int) := by omega
      cases hl : L j
      all_goals
        rw [hl] at hc' hst
        have HST := hide hst
        clear hR hRl hO hx hS hl hst hcL HX
        go_wp2
        go_round
        case rel => exact ⟨j + 1, by omega, by go_num, int_congr (by rw [HST.out]; simp)⟩
        case measure => simp [intOf]; omega
    · obtain rfl : j = n := by omega
      have b1 := sumL_bd g j (by omega) (L := L)
      have hsl := sumL_pos g (by omega) hL (i := i)
      rw [hn] at hsl
      obtain ⟨b, o, rfl, hbB, hc⟩ := hR.at_ hi
      have h0 : (0 : Int) ≤ (i : Int) := by omega
      have h1 : (i : Int) < (j : Int) := by omega
      obtain ⟨S, hS⟩ := ex_eq (sumL xs L j)
      have HS := hide hS
      rw [hS] at b1 ⊢
      have hk0 : ¬ ((k : Int) + 1 = 0) := by omega
      have HR := hide hR
      have HO := hide hO
      clear hR hRl hO hcL hS hc hsl
      go_wp2
      go_loopw [11, 42] (fun a m wr => ∃ t : Nat, t ≤ j ∧ m = .int .i64 t ∧ a = .float .f32 (accL L i (qL xs L) (fun s => PL xs k (rm L s) i) t) ∧ OwnB wr B AL j cL (lvs L j) ∧ w.grownBy wr (Value.slice AL j cL).ownBlock) (fun _ m _ => j - (intOf m).toNat)
      case atStart => exact ⟨0, Nat.zero_le _, rfl, rfl, HO.out, World.grownBy.refl w _⟩
      case round =>
        obtain ⟨t, ht, rfl, rfl, hown, hg⟩ := hrel
        clear HO
        by_cases hlt2 : t < j
        · obtain ⟨G, rfl, hG1, hG2⟩ := hown.form (by omega)
          have hc2 := World.ownsRow.cellAt (h := hown) t (by omega)
          rw [bvs_at _ _ (by rw [hown.len]; exact hlt2), lvs_getD hlt2] at hc2
          have f0 : (0 : Int) ≤ (t : Int) := by omega
          have f1 : (t : Int) < (j : Int) := by omega
          have HOW := hide hown
          have HG := hide hg
          clear hown hg
          by_cases hlt3 : L t = true ∧ t ≠ i
          · obtain ⟨hLt, hti⟩ := hlt3
            obtain ⟨o1, o2, o3⟩ := PL_ops g (k := k) (by omega) (show i < xs.length by omega) hL (show t < xs.length by omega) hLt hti
            have hst := World.ownsRow.stored (h := HOW.out) t (.bool false)
            rw [bvs_set, lvs_set] at hst
            have hf2 := World.ownsRow.frozenAt (h := HOW.out) t
            have hLi : rm L t i = true := by rw [rm_ne (fun e => hti e.symm)]; exact hL
            have hsz := HG.out.size
            obtain ⟨bs, os, hAS, hbs, hcs⟩ := (HR.out.below (grown_below HG.out hB (fun q hq => by cases hq; exact hG1))).at_ hlt2
            obtain ⟨rfl, rfl⟩ : b = bs ∧ o = os := by simpa using hAS
            have HBK := hide (lvs_back j hLt)
            obtain ⟨a, ha⟩ := ex_eq (accL L i (qL xs L) (fun s => PL xs k (rm L s) i) t)
            rw [ha] at o3 ⊢
            obtain ⟨a2, ha2⟩ := ex_eq (accL L i (qL xs L) (fun s => PL xs k (rm L s) i) (t + 1))
            have HA2 := hide ha2
            rw [ha2] at o3
            obtain ⟨p, hp⟩ := ex_eq (PL xs k (rm L t) i)
            have HC := hide (fun (V : World) (h1 : B ≤ V.heap.size) (h2 : Rd V B (some ⟨b, o, none⟩) j xs) (h3 : OwnB V B (some ⟨G, 0, none⟩) j cL (lvs (rm L t) j)) => HI.out (rm L t) V (by omega) hLi h1 h2 h3)
            rw [hp] at o2 o3 HC
            obtain ⟨q, hq⟩ := ex_eq (qL xs L t)
            rw [hq] at o1 o2 o3
            obtain ⟨m, hm⟩ := ex_eq (mulW q p)
            rw [hm] at o2 o3
            obtain ⟨x, hx⟩ := ex_eq (xs.getD t 0)
            rw [hx] at o1 hcs
            rw [hn, HS.out] at o1
            have r1 : ∀ w, (binOp .quo 25 (.float .f32 (floatOfInt .f32 x)) (.float .f32 (floatOfInt .f32 S))).run Try.prog w = .ok (.float .f32 q) w := fun w => run_float_arith (P := Try.prog) w .quo 25 .f32 _ _ _ o1
            have r2 : ∀ w, (binOp .mul 25 (.float .f32 q) (.float .f32 p)).run Try.prog w = .ok (.float .f32 m) w := fun w => run_float_arith (P := Try.prog) w .mul 25 .f32 _ _ _ o2
            have r3 : ∀ w, (binOp .add 25 (.float .f32 a) (.float .f32 m)).run Try.prog w = .ok (.float .f32 a2) w := fun w => run_float_arith (P := Try.prog) w .add 25 .f32 _ _ _ o3
            have HST := hide hst
            have g0 : ((t : Int) == (i : Int)) = false := by simp; omega
            rw [hLt] at hc2
            clear hst o1 o2 o3 HI HS ha ha2 hp hq hm hx hLt hLi hAS b1 hti
            go_wp2_with fail
            refine (HC.out _ (by have := HST.out.2.size; omega) ((HR.out.below (grown_below HG.out hB (fun q hq => by cases hq; exact hG1))).below (grown_below HST.out.2 (by omega) (fun q hq => by cases hq; exact hG1))) HST.out.1).mono ?_
            rintro e v1 ⟨rfl, ho1, hg1⟩
            have hc3 := World.ownsRow.cellAt (h := ho1) t (by omega)
            rw [bvs_at _ _ (by rw [lvs_len]; exact hlt2), lvs_getD hlt2, rm_self] at hc3
            have hf3 := World.ownsRow.frozenAt (h := ho1) t
            have hst3 := World.ownsRow.stored (h := ho1) t (.bool true)
            rw [bvs_set, HBK.out] at hst3
            have HST3 := hide hst3
            have HG3 := hide (grown_trans (grown_trans HG.out HST.out.2) hg1)
            clear hst3 ho1 hg1 HST HC hc2 hf2 HOW HG
            go_wp2
            go_roundw
            case rel => exact ⟨t + 1, by omega, by go_num, by rw [HA2.out], HST3.out.1, grown_trans HG3.out HST3.out.2⟩
            case measure => simp [intOf]; omega
          · have HA := hide (acc_skip (qL xs L) (fun s => PL xs k (rm L s) i) (show L t = false ∨ t = i by
              rcases Decidable.em (t = i) with h | h
              · exact .inr h
              · exact .inl (by cases hLt : L t; rfl; exact absurd ⟨hLt, h⟩ hlt3)))
            obtain ⟨a, ha⟩ := ex_eq (accL L i (qL xs L) (fun s => PL xs k (rm L s) i) t)
            rw [ha] at HA ⊢
            clear ha
            cases hLt : L t
            · rw [hLt] at hc2
              clear hLt hlt3 b1 HI
              go_wp2
              go_roundw
              case rel => exact ⟨t + 1, by omega, by go_num, by rw [HA.out], HOW.out, HG.out⟩
              case measure => simp [intOf]; omega
            · have hti : t = i := by
                rcases Decidable.em (t = i) with h | h
                · exact h
                · exact absurd ⟨hLt, h⟩ hlt3
              subst hti
              rw [hLt] at hc2
              clear hLt hlt3 b1 HI
              go_wp2
              go_roundw
              case rel => exact ⟨t + 1, by omega, by go_num, by rw [HA.out], HOW.out, HG.out⟩
              case measure => simp [intOf]; omega
        · obtain rfl : t = j := by omega
          clear HI hbB
          go_wp2
          go_ret
          have e : PL xs (k + 1) L i = accL L i (qL xs L) (fun s => PL xs k (rm L s) i) t := by rw [← hn]; rfl
          exact ⟨by rw [e]; rfl, hown, hg⟩

theorem place_any (xs : List Int) (g : Good xs) (AS AL : Option Addr) (n c cL B : Nat) (hn : xs.length = n) (i : Nat) (hi : i < n) : ∀ k, PlaceC xs AS AL n c cL B i k
  | 0 => place_zero xs g AS AL n c cL B hn i hi
  | k + 1 => place_succ xs g AS AL n c cL B hn i hi k (place_any xs g AS AL n c cL B hn i hi k)
end Go.Proofs.Ytlfffkjgepgcfaa.pl
