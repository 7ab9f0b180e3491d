/-
  Hands with their suits exchanged, in the reference. Conditions: those of each theorem.
-/
import Derived.Test.YtlldocdmjeeaaaaFaceI
import Derived.Test.YtlldocdmjeeaaaaFaceS
namespace Go.Proofs.Ytlldocdmjeeaaaa.hand
open Go.RowKit
open base mem grid deck

def allT (S : List Int) (i : Nat) : Bool := (List.range i).all fun j => !decide (S.getD j 0 ∈ S.take j)
theorem allT_step (S : List Int) (i : Nat) : allT S (i + 1) = (allT S i && !hasB (S.take i) (S.getD i 0)) := by unfold allT hasB; rw [List.range_succ, List.all_append]; simp
theorem allT_diff (S : List Int) : allT S 4 = diff4 S := rfl
theorem suits_at (k : Nat) (hk : k < 256) : (suits4 k).length = 4 ∧ ∀ i, i < 4 → 0 ≤ (suits4 k).getD i 0 ∧ (suits4 k).getD i 0 < 4 := by
  refine ⟨rfl, fun i hi => ?_⟩
  obtain rfl | rfl | rfl | rfl : i = 0 ∨ i = 1 ∨ i = 2 ∨ i = 3 := by omega
  all_goals simp [suits4]
  all_goals omega
theorem rd_suits (w : World) (k : Nat) : Rd (w.alloc (.cells #[.int .i64 ((k : Int) % 4), .int .i64 ((k : Int) / 4 % 4), .int .i64 ((k : Int) / 16 % 4), .int .i64 ((k : Int) / 64)] 2)) (w.heap.size + 1) (some ⟨w.heap.size, 0, none⟩) 4 (suits4 k) := by
  have hb := Blk.new w 2 #[.int .i64 ((k : Int) % 4), .int .i64 ((k : Int) / 4 % 4), .int .i64 ((k : Int) / 16 % 4), .int .i64 ((k : Int) / 64)]
  refine ⟨rfl, fun _ => ⟨w.heap.size, 0, rfl, by omega, fun i hi => ?_⟩⟩
  rw [Nat.zero_add, hb.cell i]
  obtain rfl | rfl | rfl | rfl : i = 0 ∨ i = 1 ∨ i = 2 ∨ i = 3 := by omega
  all_goals simp [suits4]
theorem fcard_nat2 (o : List Int) (x y : Nat) (h : o.getD (x / 13) 0 = (y : Int)) : fcard o (x : Int) = 13 * (y : Int) + (x : Int) % 13 := by rw [fcard_nat o x y h]; omega

set_option maxRecDepth 20000 in
set_option maxHeartbeats 8000000 in
theorem l03Face_any (A : Option Addr) (n c : Nat) (cards : List Int) (w : World) (hR : Rd w w.heap.size A n cards) (hn0 : 0 < n) (hn : n ≤ 1000) (hf : ∀ x ∈ cards, 0 ≤ x ∧ x < 52) :
    Calls Try.prog 67 #[.slice A n c] w fun e w' => ∃ A' c', e = .returned (.slice A' n c') ∧ Own w' w.heap.size A' n c' (faceM (ords256 256) cards) ∧ Below w.heap.size w w' := by
  have hl := hR.len
  have HF := hide hf
  have HN := hide (Lst.new w (Nat.le_refl _))
  have hfin : (faceM (ords256 256) cards).length = n := by rw [faceM_len_any _ _ (by omega), if_neg (by decide +kernel)]; exact hl
  have HFIN := hide hfin
  clear hf hfin
  go_enter Try.func67, Try.ntmps67
  go_wp2
  go_loopw [3, 4] (fun bv kv wr => ∃ (k nb : Nat) (Ab : Option Addr) (cb : Nat), k ≤ 256 ∧ kv = .int .i64 k ∧ bv = .slice Ab nb cb ∧ Own wr w.heap.size Ab nb cb (faceM (ords256 k) cards) ∧ Below w.heap.size w wr) (fun _ kv _ => 256 - (intOf kv).toNat)
  case atStart => exact ⟨0, 0, _, _, Nat.zero_le _, rfl, rfl, by obtain ⟨a, b, e, h⟩ := HN.out.formn (n := 0) rfl; cases e; exact h, (Below.refl _ _).alloc (Nat.le_refl _) _⟩
  case round =>
    obtain ⟨k, nb, Ab, cb, hk, rfl, rfl, hB, hb⟩ := hrel
    by_cases hlt : k < 256
    · have hos := ords_step k
      have dk : decide ((k : Int) < 256) = true := decide_eq_true (by omega)
      have hnb := hB.len
      have hbl := faceM_len_any (ords256 k) cards (by omega)
      obtain ⟨BL, hBL⟩ := ex_eq (faceM (ords256 k) cards)
      rw [hBL] at hB hnb hbl
      have hnb2 : nb = 0 ∨ nb = n := by rw [hnb] at hbl; split at hbl <;> omega
      have HBL := hide hBL
      have HNB := hide hnb
      have HB := hide hB
      have HBW := hide hb
      have hz := hb.size
      have hsa := suits_at k hlt
      have HOS := hide hos
      clear hB hb hos hbl hBL hnb
      obtain ⟨wo, rfl⟩ : ∃ wo : World, wo = wr := ⟨_, rfl⟩
      go_upto_region 6 with fail
      (try rw [dk])
      obtain ⟨ws, hws⟩ : ∃ X, X = wo.alloc (.cells #[.int .i64 ((k : Int) % 4), .int .i64 ((k : Int) / 4 % 4), .int .i64 ((k : Int) / 16 % 4), .int .i64 ((k : Int) / 64)] 2) := ⟨_, rfl⟩
      have HRS := hide (show Rd ws (wo.heap.size + 1) (some ⟨wo.heap.size, 0, none⟩) 4 (suits4 k) by rw [hws]; exact rd_suits wo k)
      have hbs : Below wo.heap.size wo ws := by rw [hws]; exact (Below.refl _ _).alloc (Nat.le_refl _) _
      have hzs : ws.heap.size = wo.heap.size + 1 := by rw [hws]; simp
      rw [← hws]
      obtain ⟨gs, hgs⟩ := ex_eq wo.heap.size
      rw [hgs] at HRS hz hzs ⊢
      have HBS := hide hbs
      obtain ⟨S, hS⟩ := ex_eq (suits4 k)
      rw [hS] at HRS HOS hsa
      clear hws hbs hS
      go_wp2
      go_loopw [6, 28] (fun av ix w5 => ∃ i q : Nat, i ≤ 4 ∧ ix = .int .i64 i ∧ av = .bool (allT S i) ∧ Hid (w5 = ws.drewN q)) (fun _ ix _ => 4 - (intOf ix).toNat)
      case atStart => exact ⟨0, 0, Nat.zero_le _, rfl, rfl, rfl⟩
      case round =>
        obtain ⟨i, q, hi, rfl, rfl, hw⟩ := hrel
        by_cases hi4 : i < 4
        · have hst := allT_step S i
          have hRi : Rd wr (gs + 1) (some ⟨gs, 0, none⟩) 4 S := by rw [hw.out]; exact HRS.out.drewN q
          obtain ⟨b, o, e, hbB, hc⟩ := hRi.at_ hi4
          obtain ⟨rfl, rfl⟩ : gs = b ∧ 0 = o := by simpa using e
          rw [Nat.zero_add] at hc
          cases hA : allT S i
          · have HA := hide (show allT S (i + 1) = false by rw [hst, hA]; rfl)
            clear hst hRi e hA
            go_wp2
            go_quiet (fail)
            go_wp2
            go_roundw
            case rel => exact ⟨i + 1, q + nq, by omega, by go_num, by rw [HA.out], hide (by rw [hw.out, World.drewN_drewN])⟩
            case measure => simp [intOf]; omega
          · rw [hA, Bool.true_and] at hst
            have hRt : Rd wr (gs + 1) (some ⟨gs, 0, none⟩) i (S.take i) := Rd.take hRi (by omega)
            obtain ⟨x, hx⟩ := ex_eq (S.getD i 0)
            rw [hx] at hst hc
            have hH := fun q => l00Has_any (some ⟨gs, 0, none⟩) i 4 (S.take i) x (gs + 1) (wr.drewN q) (hRt.drewN q) (by omega)
            have h0 : (0 : Int) ≤ (i : Int) := by omega
            have hic : (i : Int) ≤ 4 := by omega
            have hlt' : (i : Int) < 4 := by omega
            cases hhas : hasB (S.take i) x
            · rw [hhas] at hst hH
              have HA := hide hst
              have HH := hide hH
              clear hst hRi hRt e hA hx hH hhas
              go_wp2
              go_quiet ((go_at_call 64; exact quiet_eq (HH.out _)))
              go_wp2
              go_roundw
              case rel => exact ⟨i + 1, q + nq, by omega, by go_num, by rw [HA.out]; rfl, hide (by rw [hw.out, World.drewN_drewN])⟩
              case measure => simp [intOf]; omega
            · rw [hhas] at hst hH
              have HA := hide hst
              have HH := hide hH
              clear hst hRi hRt e hA hx hH hhas
              go_wp2
              go_quiet ((go_at_call 64; exact quiet_eq (HH.out _)))
              go_wp2
              go_roundw
              case rel => exact ⟨i + 1, q + nq, by omega, by go_num, by rw [HA.out]; rfl, hide (by rw [hw.out, World.drewN_drewN])⟩
              case measure => simp [intOf]; omega
        · obtain rfl : i = 4 := by omega
          rw [allT_diff, show ((4 : Nat) : Int) = 4 from rfl]
          have hbq : Below wo.heap.size wo wr := by rw [hw.out]; exact bdrewN HBS.out q
          have hRq : Rd wr (gs + 1) (some ⟨gs, 0, none⟩) 4 S := by rw [hw.out]; exact HRS.out.drewN q
          have hzq : wr.heap.size = gs + 1 := by rw [hw.out]; exact hzs
          have HBQ := hide hbq
          have HBW2 := hide (HBW.out.trans (hbq.mono (by rw [hgs]; exact hz)))
          clear hw hbq
          cases hd : diff4 S
          · rw [hd] at HOS
            have HO2 := hide (show ords256 (k + 1) = ords256 k from HOS.out)
            have HB2 := hide (HB.out.below HBQ.out (Nat.le_refl _))
            clear hd HOS
            go_wp2
            go_roundw
            case rel => exact ⟨k + 1, nb, Ab, cb, by omega, by go_num, rfl, by rw [HO2.out, HBL.out]; exact HB2.out, HBW2.out⟩
            case measure => simp [intOf]; omega
          · rw [hd, if_pos rfl] at HOS
            have HO2 := hide (show faceM (ords256 (k + 1)) cards = pick2 BL (faceOn S cards) by rw [HOS.out, faceM_step, HBL.out])
            have HB2 := hide (HB.out.below HBQ.out (Nat.le_refl _))
            have HRc := hide ((hR.below HBW2.out).more HBW2.out.size)
            obtain ⟨w7, rfl⟩ : ∃ w7 : World, w7 = wr := ⟨_, rfl⟩
            clear hd HOS
            go_wp2
            go_loopw [8, 49] (fun lv ix wr => ∃ i : Nat, i ≤ n ∧ ix = .int .i64 i ∧ Lst wr w7.heap.size lv ((cards.take i).map (fcard S)) ∧ Below w7.heap.size w7 wr) (fun _ ix _ => n - (intOf ix).toNat)
            case atStart => exact ⟨0, Nat.zero_le _, rfl, Lst.new' w7 (Nat.le_refl _) hzq, (Below.refl _ _).alloc (Nat.le_refl _) _⟩
            case round =>
              obtain ⟨i, hi, rfl, hL, hb⟩ := hrel
              by_cases hlt2 : i < n
              · have hix : i < cards.length := by omega
                have hfs := face_step S cards hix
                obtain ⟨x, hx, hx52⟩ := fcards_at HF.out hix
                obtain ⟨b3, o3, rfl, hbB3, hc3⟩ := ((HRc.out.below hb).more hb.size).at_ hlt2
                rw [hx] at hfs hc3
                have hq : x / 13 < 4 := by omega
                have hoy := hsa.2 (x / 13) hq
                obtain ⟨b4, o4, e4, hbB4, hcy⟩ := hRq.at_ hq
                obtain ⟨rfl, rfl⟩ : gs = b4 ∧ 0 = o4 := by simpa using e4
                rw [Nat.zero_add] at hcy
                obtain ⟨y, hy⟩ : ∃ y : Nat, S.getD (x / 13) 0 = (y : Int) := ⟨(S.getD (x / 13) 0).toNat, by omega⟩
                rw [fcard_nat2 _ _ _ hy] at hfs
                rw [hy] at hoy hcy
                have hcy2 : wr.cell? ⟨gs, x / 13, none⟩ = some (.int .i64 (y : Int)) := (hb.cell (p := ⟨gs, x / 13, none⟩) (by simp; omega)).trans hcy
                have hml2 : ((cards.take i).map (fcard S)).length = i := by rw [List.length_map, List.length_take]; omega
                have HFS := hide hfs
                obtain ⟨PL, hPL⟩ := ex_eq ((cards.take i).map (fcard S))
                rw [hPL] at hL HFS hml2
                have HL := hide hL
                have HBI := hide hb
                have hzi := hb.size
                have h13 : x % 13 < 13 := Nat.mod_lt _ (by decide)
                have hin : (i : Int) < (n : Int) := by omega
                have hq0 : (0 : Int) ≤ (x : Int) / 13 := by omega
                have hq4 : (x : Int) / 13 < 4 := by omega
                clear hfs hx hcy hL hb hPL hix hy e4
                go_upto_region 17 with fail
                have hcy3 : wr.cell? ⟨gs, ((x : Int) / 13).toNat, none⟩ = some (.int .i64 (y : Int)) := by rw [show ((x : Int) / 13).toNat = x / 13 by omega]; exact hcy2
                have hleN : i + 1 ≤ 1000000000000 := by omega
                have hw1 : IntKind.i64.wrap ((x : Int) / 13) = (x : Int) / 13 := IntWalk.i64_in _ ⟨by omega, by omega⟩
                have hw2 : IntKind.i64.wrap (13 * (y : Int)) = 13 * (y : Int) := IntWalk.i64_in _ ⟨by omega, by omega⟩
                have hw3 : IntKind.i64.wrap (13 * (y : Int) + (x : Int).tmod 13) = 13 * (y : Int) + (x : Int) % 13 := by rw [Int.tmod_eq_emod_of_nonneg (by omega)]; exact IntWalk.i64_in _ ⟨by omega, by omega⟩
                have hA1 := hide ((HL.out.alloc (.cells #[.int .i64 (13 * (y : Int) + (x : Int) % 13)] 2)).drewN 1)
                have hA2 := hide ((rd_one wr (13 * (y : Int) + (x : Int) % 13) 2).drewN 1)
                have hA3 := hide (show PL.length + 1 ≤ 1000000000000 by rw [hml2]; omega)
                have hA4 := hide (show w7.heap.size ≤ ((wr.alloc (.cells #[.int .i64 (13 * (y : Int) + (x : Int) % 13)] 2)).drewN 1).heap.size from Nat.le_trans hzi (by simp))
                go_region_law (refine step_app rfl (.tmp 52) (.tmp 68) rfl w7.heap.size u8 PL [13 * (y : Int) + (x : Int) % 13] rfl hA1.out (some ⟨wr.heap.size, 0, none⟩) 1 1 rfl hA2.out (fun h => by cases h) hA3.out hA4.out ?_; intro v4 w4 ho4 hg4 _)
                all_goals
                  have hb4 : Below w7.heap.size w7 w4 := by
                    have h1 : Below w7.heap.size ((wr.alloc (.cells #[.int .i64 (13 * (y : Int) + (x : Int) % 13)] 2)).drewN 1) w4 := Lst.grown hA1.out hg4 hA4.out
                    exact (below_drewN (HBI.out.alloc hzi _) 1).trans h1
                  clear hw1 hw2 hw3
                  have HO4 := hide ho4
                  have HB4 := hide hb4
                  clear ho4 hg4 hb4
                  go_wp2
                  go_roundw
                  case rel => exact ⟨i + 1, by omega, by go_num, by rw [HFS.out]; exact HO4.out, HB4.out⟩
                  case measure => simp [intOf]; omega
              · obtain rfl : i = n := by omega
                have hta : cards.take i = cards := List.take_of_length_le (by omega)
                rw [hta] at hL
                obtain ⟨A8, c8, rfl, hO8⟩ := hL.formn (n := i) (by rw [List.length_map]; exact hl)
                have HSR := hide (l03Sorted_any A8 i c8 _ wr hO8.rd hn0 hn)
                have hfo : srt (cards.map (fcard S)) = faceOn S cards := rfl
                rw [hfo] at HSR
                have hfl : (faceOn S cards).length = i := by rw [faceOn_len]; exact hl
                obtain ⟨LS, hLS⟩ := ex_eq (faceOn S cards)
                rw [hLS] at HSR HO2 hfl
                have HBI := hide hb
                have hzi := hb.size
                have hzw := HBW2.out.size
                have HNIL : Hid (nb = 0 → BL = []) := fun h => List.eq_nil_of_length_eq_zero (by rw [HNB.out]; exact h)
                clear hL hO8 hb hta hfo hLS
                go_upto_region 20 with (go_at_call 97; refine HSR.out.mono ?_; rintro e w8 ⟨A9, c9, rfl, ho9, hb9⟩)
                have hbw9 : Below w.heap.size w w8 := HBW2.out.trans ((HBI.out.trans (hb9.mono hzi)).mono hzw)
                have hob9 : Own w8 w.heap.size Ab nb cb BL := HB2.out.below (HBI.out.trans (hb9.mono hzi)) (Nat.le_refl _)
                have ho9' : Own w8 w.heap.size A9 i c9 LS := ho9.mono (by omega)
                have HO9 := hide ho9'
                have HOB := hide hob9
                have HB9 := hide hbw9
                clear ho9 hb9 hbw9 hob9 ho9'
                rcases hnb2 with rfl | rfl
                · have HP := hide (show faceM (ords256 (k + 1)) cards = LS by rw [HO2.out, HNIL.out rfl]; simp [pick2])
                  clear HO2
                  go_wp2
                  go_roundw
                  case rel => exact ⟨k + 1, i, A9, c9, by omega, by go_num, rfl, by rw [HP.out]; exact HO9.out, HB9.out⟩
                  case measure => simp [intOf]; omega
                · have HBE := hide (l03Before_any A9 nb c9 LS Ab cb BL w8 HO9.out.rd HOB.out.rd (by omega))
                  have HBNE := hide (show ¬ BL = [] by rintro rfl; have := HNB.out; simp at this; omega)
                  have hne0 : ((nb : Int) == 0) = false := by simp; omega
                  cases hlx : lexB LS BL
                  · have HP := hide (show faceM (ords256 (k + 1)) cards = BL by rw [HO2.out]; unfold pick2; rw [if_neg (by rintro (h | h); exact HBNE.out h; rw [hlx] at h; cases h)])
                    rw [hlx] at HBE
                    clear HO2 hlx
                    go_wp2_with (go_at_call 98; refine HBE.out.mono ?_; rintro e w9 ⟨qq, rfl, rfl⟩)
                    go_roundw
                    case rel => exact ⟨k + 1, nb, Ab, cb, by omega, by go_num, rfl, by rw [HP.out]; exact HOB.out.drewN _, bdrewN HB9.out _⟩
                    case measure => simp [intOf]; omega
                  · have HP := hide (show faceM (ords256 (k + 1)) cards = LS by rw [HO2.out]; unfold pick2; rw [if_pos (.inr hlx)])
                    rw [hlx] at HBE
                    clear HO2 hlx
                    go_wp2_with (go_at_call 98; refine HBE.out.mono ?_; rintro e w9 ⟨qq, rfl, rfl⟩)
                    go_roundw
                    case rel => exact ⟨k + 1, nb, A9, c9, by omega, by go_num, rfl, by rw [HP.out]; exact HO9.out.drewN _, bdrewN HB9.out _⟩
                    case measure => simp [intOf]; omega
    · obtain rfl : k = 256 := by omega
      have hnbn := hB.len
      rw [HFIN.out] at hnbn
      subst hnbn
      go_wp2
      go_ret
      exact ⟨Ab, cb, rfl, hB, hb⟩

theorem ords256_ne : ords256 256 ≠ [] := by decide +kernel
theorem face_same {xs : List Int} (h : 0 < xs.length) : faceM (ords256 256) xs = faceM ords24 xs :=
  faceM_same h ords256_ne fun l => ⟨ords_all.2 l, ords_all.1 l⟩
set_option maxHeartbeats 4000000 in
theorem spec_FaceOf (A : Option Addr) (n c : Nat) (xs : List Int) (w : World) (hR : Rd w w.heap.size A n xs) (hn : n ≤ 1048576) (hnc : n ≤ c) :
    Calls Try.prog 38 #[.slice A n c] w fun e w' => ∃ A' c', e = .returned (.tuple #[.slice A' (faceOut xs).length c', .bool (faceOk xs)]) ∧ Own w' w.heap.size A' (faceOut xs).length c' (faceOut xs) ∧ Below w.heap.size w w' := by
  have hl := hR.len
  have HH := hide (l03Hand_any A n c xs w.heap.size w hR hn hnc)
  cases hk : faceOk xs
  · have hO : faceOut xs = [] := by simp [faceOut, hk]
    have hk' : handB xs 1 7 = false := hk
    rw [hO]
    rw [hk'] at HH
    clear hO hk hk' hR
    go_enter Try.func38, Try.ntmps38
    go_wp2_with (go_at_call 52; refine HH.out.mono ?_; rintro e w1 ⟨rfl, q, rfl⟩)
    go_ret2
    exact ⟨none, 0, rfl, Own.nil _ _, bdrewN (Below.refl _ _) _⟩
  · have hO : faceOut xs = faceM ords24 xs := by simp [faceOut, hk]
    have hk' : handB xs 1 7 = true := hk
    obtain ⟨hp1, hp2⟩ := face_parts hk
    have hfl := faceOut_of hk
    have hsm := face_same (xs := xs) (by omega)
    rw [hl] at hfl hp1
    rw [hO, hfl]
    rw [hk'] at HH
    have HFO := hide (fun (q : Nat) => l03Face_any A n c xs (w.drewN q) (hR.drewN q) hp1.1 (by omega) hp2)
    rw [hsm] at HFO
    obtain ⟨FL, hFL⟩ := ex_eq (faceM ords24 xs)
    rw [hFL] at HFO ⊢
    clear hk hk' hO hfl hFL hR hsm
    go_enter Try.func38, Try.ntmps38
    go_wp2_with (first | (go_at_call 52; refine HH.out.mono ?_; rintro e w1 ⟨rfl, q, rfl⟩) | (go_at_call 67; refine (HFO.out _).mono ?_; rintro e w3 ⟨A3, c3, rfl, ho3, hb3⟩))
    go_ret2
    exact ⟨A3, c3, rfl, ho3, (bdrewN (Below.refl _ _) _).trans hb3⟩

end Go.Proofs.Ytlldocdmjeeaaaa.hand
