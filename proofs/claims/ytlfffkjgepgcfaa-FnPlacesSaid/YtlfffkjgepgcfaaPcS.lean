/-
  The reference's PlaceChances answers what Pl tells. Conditions: those of each theorem.
-/
import Derived.Test.YtlfffkjgepgcfaaPlS
import Derived.Test.YtlfffkjgepgcfaaPlx
import Derived.Test.YtlfffkjgepgcfaaStq
import Derived.Test.YtlfffkjgepgcfaaAppB
namespace Go.Proofs.Ytlfffkjgepgcfaa.pl
open Go.RowKit
open base mem fl chance
open Ieee

def plRow (xs : List Int) (i m : Nat) : List Nat := (List.range m).map fun k => PL xs k allL i
def plAll (xs : List Int) (m : Nat) : List Nat := (List.range m).flatMap fun i => plRow xs i xs.length
def pcOut (xs : List Int) : List Nat := if sqOk xs then plAll xs xs.length else []
theorem plRow_len (xs : List Int) (i m : Nat) : (plRow xs i m).length = m := by simp [plRow]
theorem plRow_succ (xs : List Int) (i m : Nat) : plRow xs i (m + 1) = plRow xs i m ++ [PL xs m allL i] := by simp [plRow, List.range_succ]
theorem plRow_at {xs : List Int} {i m k : Nat} (h : k < m) : (plRow xs i m).getD k 0 = PL xs k allL i := by simp [plRow, List.getD, h]
theorem plAll_succ (xs : List Int) (m : Nat) : plAll xs (m + 1) = plAll xs m ++ plRow xs m xs.length := by simp [plAll, List.range_succ]
theorem plAll_len (xs : List Int) : ∀ m, (plAll xs m).length = m * xs.length
  | 0 => by simp [plAll]
  | m + 1 => by rw [plAll_succ, List.length_append, plAll_len xs m, plRow_len, Nat.add_mul, Nat.one_mul]
theorem plAll_at {xs : List Int} {i k : Nat} (hk : k < xs.length) : ∀ m, i < m → (plAll xs m).getD (i * xs.length + k) 0 = PL xs k allL i
  | 0, h => absurd h (by omega)
  | m + 1, h => by
    rw [plAll_succ]
    have hl := plAll_len xs m
    by_cases he : i = m
    · subst he
      have := plRow_at (xs := xs) (i := i) hk
      rw [List.getD, List.getElem?_append_right (by rw [hl]; omega), hl, Nat.add_sub_cancel_left]
      exact this
    · have h1 : i < m := by omega
      have h2 : i * xs.length + k < m * xs.length := by
        have h3 := Nat.mul_le_mul_right xs.length (show i + 1 ≤ m by omega)
        rw [Nat.add_mul, Nat.one_mul] at h3
        omega
      have ih := plAll_at hk m h1
      rw [List.getD, List.getElem?_append_left (by rw [hl]; exact h2)]
      exact ih
theorem plAll_num {xs : List Int} (g : Good xs) : ∀ m, m ≤ xs.length → NumF (plAll xs m) := by
  intro m hm j hj
  rw [plAll_len] at hj
  have hn : 0 < xs.length := by
    rcases Nat.eq_zero_or_pos xs.length with h | h
    · rw [h] at hj; omega
    · exact h
  have e1 : j / xs.length * xs.length + j % xs.length = j := by rw [Nat.mul_comm]; exact Nat.div_add_mod _ _
  have h1 : j / xs.length < m := (Nat.div_lt_iff_lt_mul hn).2 hj
  have h2 := Nat.mod_lt j hn
  rw [← e1, plAll_at h2 m h1]
  exact PL_V g (by have := g.few; omega) (by omega) rfl
theorem pcOut_len (xs : List Int) : (pcOut xs).length ≤ 36 := by
  unfold pcOut
  split
  · next h =>
    rw [plAll_len]
    have := (sqOk_good h).1.few
    exact Nat.mul_le_mul this this
  · simp
theorem pcOut_num (xs : List Int) : NumF (pcOut xs) := by
  unfold pcOut
  split
  · next h => exact plAll_num (sqOk_good h).1 _ (Nat.le_refl _)
  · intro k hk; simp at hk
theorem lvs_all (n : Nat) : List.replicate n true = lvs allL n := by
  apply List.ext_getElem
  · simp [lvs]
  · intro k h1 h2
    simp [lvs, allL]
theorem sep_new {v u : Value} {H H2 : Nat} (hv : v.ownBlock = some H) (hu : ∀ k, u.ownBlock = some k → k < H2) (h : H2 ≤ H) : Sep v u := by
  refine .inr fun e => ?_
  rw [hv] at e
  have := hu H e.symm
  omega

set_option maxRecDepth 10000 in
set_option maxHeartbeats 8000000 in
theorem spec_PlaceChances (A : Option Addr) (n c : Nat) (xs : List Int) (w : World) (hR : Rd w w.heap.size A n xs) (hn : n ≤ 1048576) (_hnc : n ≤ c) :
    Calls Try.prog 28 #[.slice A n c] w fun e w' => ∃ A' c', e = .returned (.tuple #[.slice A' (pcOut xs).length c', .bool (sqOk xs)]) ∧ OwnF w' w.heap.size A' (pcOut xs).length c' (pcOut xs) ∧ Below w.heap.size w w' := by
  have HT := hide (l03Stacks_any A n c xs _ w hR hn)
  cases hq : sqOk xs
  · have hO : pcOut xs = [] := by simp [pcOut, hq]
    rw [hO]
    rw [hq] at HT
    clear hO hq
    go_enter Try.func28, Try.ntmps28
    go_wp2_with fail
    refine HT.out.mono ?_
    rintro e w' ⟨rfl, rfl⟩
    go_wp2
    go_ret2
    exact ⟨none, 0, rfl, OwnF.nil _ _, Below.refl _ _⟩
  · obtain ⟨g, hx1⟩ := sqOk_good hq
    have hO : pcOut xs = plAll xs n := by simp [pcOut, hq, hR.len]
    have hfew := g.few
    have hxn := hR.len
    rw [hxn] at hfew hx1
    rw [hO]
    rw [hq] at HT
    have HXN := hide hxn
    clear hO hq hxn
    go_enter Try.func28, Try.ntmps28
    go_wp2_with fail
    refine HT.out.mono ?_
    rintro e w' ⟨rfl, rfl⟩
    go_wp2
    generalize hg : w.heap.size = G at *
    have HG := hide hg
    have hz : G ≤ w.heap.size := by omega
    clear hg HT
    go_loopw [4, 14] (fun v i wr => ∃ k : Nat, k ≤ n ∧ i = .int .i64 k ∧ LstB wr G v (List.replicate k true) ∧ Below G w wr) (fun _ i _ => n - (intOf i).toNat)
    case atStart => exact ⟨0, Nat.zero_le _, rfl, LstB.new' w hz HG.out, (Below.refl _ _).alloc hz _⟩
    case round =>
      obtain ⟨k, hk, rfl, hown, hbr⟩ := hrel
      have hgr : G ≤ wr.heap.size := by have := hbr.size; have := HG.out; omega
      by_cases hlt : k < n
      · go_wp2_with (at_builtin; refine wpList_appB rfl (.tmp 16) (.tmp 17) rfl G _ (List.replicate k true) [true] rfl (hown.alloc _) (some ⟨wr.heap.size, 0, none⟩) 1 1 rfl (rdB_one wr true 4) (fun h => by cases h) (by simp; omega) (by simp; omega) ?_; intro v4 w4 ho4 hg4 _)
        have hb4 : Below G wr w4 := ((Below.refl _ _).alloc hgr _).trans ((hown.alloc _).grown hg4 (by simp; omega))
        have ho4' : LstB w4 G v4 (List.replicate (k + 1) true) := by rw [List.replicate_succ']; exact ho4
        clear hg4 ho4 hown
        go_wp2
        go_roundw
        case rel => exact ⟨k + 1, hlt, by go_num, ho4', hbr.trans hb4⟩
        case measure => simp [intOf]; omega
      · obtain rfl : k = n := by omega
        rw [lvs_all] at hown
        obtain ⟨AL, cL, rfl, hLo⟩ := hown.formn (lvs_len allL k)
        have hLb := hLo.ownBlock
        have HL := hide hLo
        clear hLo hown
        have hz2 : wr.heap.size = wr.heap.size := rfl
        go_wp2
        have HB0 := hide (hbr.trans ((Below.refl _ _).alloc hgr (.cells #[] 25)))
        have HN0 := hide (LstF.new wr hgr)
        have HS0 := hide (show Sep (.slice (some ⟨wr.heap.size, 0, none⟩) 0 0) (.slice AL k cL) from sep_new rfl (fun q hq => (hLb q hq).2) (Nat.le_refl _))
        have HL0 := hide (show OwnB (wr.alloc (.cells #[] 25)) G AL k cL (lvs allL k) from World.ownsRow.alloc HL.out _)
        go_loopw [5, 23] (fun v i wz => ∃ i' : Nat, i' ≤ k ∧ i = .int .i64 i' ∧ Hid (LstF wz G v (plAll xs i')) ∧ Hid (OwnB wz G AL k cL (lvs allL k)) ∧ Hid (Sep v (.slice AL k cL)) ∧ Below G w wz) (fun _ i _ => k - (intOf i).toNat)
        case atStart => exact ⟨0, Nat.zero_le _, rfl, HN0, HL0, HS0, HB0.out⟩
        case round =>
          clear HB0 HN0 HS0 HL0 hbr hLb HL hgr hz2
          obtain ⟨i, hi, rfl, HN, HL, HS, hbr⟩ := hrel
          by_cases hlt : i < k
          · have HN1 := hide (show LstF wr G u5 (plAll xs i ++ plRow xs i 0) by rw [show plRow xs i 0 = [] from rfl, List.append_nil]; exact HN.out)
            clear HN
            go_wp2
            go_loopw [5, 28] (fun v j wz => ∃ t : Nat, t ≤ k ∧ j = .int .i64 t ∧ Hid (LstF wz G v (plAll xs i ++ plRow xs i t)) ∧ Hid (OwnB wz G AL k cL (lvs allL k)) ∧ Hid (Sep v (.slice AL k cL)) ∧ Below G w wz) (fun _ i _ => k - (intOf i).toNat)
            case atStart => exact ⟨0, Nat.zero_le _, rfl, HN1, HL, HS, hbr⟩
            case round =>
              clear HN1 HL HS hbr
              obtain ⟨t, ht, rfl, HN, HL, HS, hbr⟩ := hrel
              by_cases hlt2 : t < k
              · have HC := hide (place_any xs g A AL k c cL G HXN.out i hlt t)
                have hlen : (plAll xs i ++ plRow xs i t).length ≤ 1000 := by
                  rw [List.length_append, plAll_len, plRow_len, HXN.out]
                  have := Nat.mul_le_mul (show i ≤ 6 by omega) hfew
                  omega
                have HNX := hide (show plAll xs i ++ plRow xs i (t + 1) = (plAll xs i ++ plRow xs i t) ++ [PL xs t allL i] by rw [plRow_succ, List.append_assoc])
                obtain ⟨ys, hys⟩ := ex_eq (plAll xs i ++ plRow xs i t)
                obtain ⟨p, hp⟩ := ex_eq (PL xs t allL i)
                rw [hys] at HN HNX hlen
                rw [hp] at HNX
                have hgr : G ≤ wr.heap.size := by have := hbr.size; have := HG.out; omega
                have HP := hide hp
                clear hys hp
                go_wp2_with fail
                refine (HC.out allL _ (by omega) rfl hgr (hR.below hbr) HL.out).mono ?_
                rintro e w3 ⟨rfl, ho3, hg3⟩
                rw [HP.out]
                have HN3 := HN.out.kept hg3 HS.out
                have hb3 := hbr.trans ((Below.refl G wr).grown hg3 hgr (fun q hq => (HL.out.ownBlock q hq).1))
                have hgr3 : G ≤ w3.heap.size := by have := hb3.size; have := HG.out; omega
                clear HN hbr HL HC hgr
                go_wp2_with (at_builtin; refine wpList_appF rfl (.tmp 31) (.tmp 37) rfl G _ ys [p] rfl (HN3.alloc _) (some ⟨w3.heap.size, 0, none⟩) 1 1 rfl (rdF_one w3 p 25) (fun h => by cases h) (by omega) (by simp; omega) ?_; intro v4 w4 ho4 hg4 hb4)
                have hbb := (HN3.alloc (.cells #[.float .f32 p] 25)).grown hg4 (by simp; omega)
                have hb5 := hb3.trans (((Below.refl G w3).alloc hgr3 _).trans hbb)
                have HNn := hide (show LstF w4 G v4 (plAll xs i ++ plRow xs i (t + 1)) by rw [HNX.out]; exact ho4)
                have HLn := hide (show OwnB w4 G AL k cL (lvs allL k) from World.ownsRow.kept (World.ownsRow.alloc ho3 _) hg4 HS.out.symm)
                have HSn := hide (show Sep v4 (.slice AL k cL) from HS.out.app hb4 (fun q hq => by have := (ho3.ownBlock q hq).2; simp; omega))
                clear hb4 hg4 ho4 hbb hb3 HN3 ho3 hg3 HS
                go_wp2
                go_roundw
                case rel => exact ⟨t + 1, by omega, by go_num, HNn, HLn, HSn, hb5⟩
                case measure => simp [intOf]; omega
              · obtain rfl : t = k := by omega
                have HN2 := hide (show LstF wr G u5 (plAll xs (i + 1)) by rw [plAll_succ, HXN.out]; exact HN.out)
                clear HN
                go_wp2
                go_roundw
                case rel => exact ⟨i + 1, by omega, by go_num, HN2, HL, HS, hbr⟩
                case measure => simp [intOf]; omega
          · obtain rfl : i = k := by omega
            have hln : (plAll xs i).length = (plAll xs i).length := rfl
            obtain ⟨AO, cO, rfl, hO⟩ := HN.out.form
            clear HN hln
            go_wp2
            go_ret2
            exact ⟨AO, cO, rfl, by rw [HG.out]; exact hO, by rw [HG.out]; exact hbr⟩
end Go.Proofs.Ytlfffkjgepgcfaa.pl
