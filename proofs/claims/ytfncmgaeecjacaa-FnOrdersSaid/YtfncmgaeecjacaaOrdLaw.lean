/-
  The statement on orders, walked. Conditions: those of each theorem.
-/
import Derived.Test.YtfncmgaeecjacaaOrdW
import Derived.Test.YtfncmgaeecjacaaSeqT
import Derived.ChangeOld
import Derived.Below
import Derived.Deep.CutRange
namespace Go.Proofs.Ytfncmgaeecjacaa.orb
open Go.RowKit
open base mem grid byts deck rnk

theorem adv {R : World → Prop} {x y : World} (S : Hid (∀ W : World, Below x.heap.size x W → R W)) (hb : Below x.heap.size x y) : Hid (∀ W : World, Below y.heap.size y W → R W) :=
  hide fun W h => S.out W (hb.trans (h.mono hb.size))
theorem advG {w x y : World} (G : Hid (Below w.heap.size w x)) (hb : Below x.heap.size x y) : Hid (Below w.heap.size w y) := hide (G.out.trans (hb.mono G.out.size))
theorem own_all {w : World} {B : Nat} {A : Option Addr} {n c : Nat} {xs : List Int} (ho : Own w B A n c xs) : Hid (∀ W : World, Below w.heap.size w W → Rd W W.heap.size A n xs) :=
  hide fun _ hb => (ho.rd.below hb).more hb.size
theorem rdY_more {w : World} {B B' n : Nat} {A : Option Addr} {zs : List Int} (h : hand.RdY w B A n zs) (hB : B ≤ B') : hand.RdY w B' A n zs :=
  ⟨h.1, fun hn => by
    obtain ⟨b, o, e, hb, hc⟩ := h.2.1 hn
    exact ⟨b, o, e, by omega, hc⟩, h.2.2⟩
theorem here {x : World} : Below x.heap.size x x := Below.refl _ _
theorem same_eq {A : Option Addr} {n c : Nat} {xs : List Int} {A2 : Option Addr} {c2 : Nat} {B B2 : Nat} {W : World} (hR : Rd W B A n xs) (hY : Rd W B2 A2 n xs) (hn : n ≤ 52) :
    Calls Try.prog 57 #[.slice A n c, .slice A2 n c2] W fun e w' => e = .returned (.bool true) ∧ ∃ q', w' = W.drewN q' := by
  have h := r8Same_any A n c xs A2 c2 xs B B2 W hR hY (by omega)
  rw [show decide (xs = xs) = true from decide_eq_true rfl] at h
  exact h.mono fun e w' ⟨k, he, hw⟩ => ⟨he, k, hw⟩
theorem bef_rank {A : Option Addr} {n c : Nat} {xs ys : List Int} {A2 : Option Addr} {c2 : Nat} {B B2 : Nat} {W : World} {ra rb : Int} (q : Nat) (hb : ra < rb ↔ Bef xs ys) (hR : Rd W B A n xs) (hY : Rd W B2 A2 n ys) (hn : n ≤ 52) :
    Calls Try.prog 58 #[.slice A n c, .slice A2 n c2] (W.drewN q) fun e w' => e = .returned (.bool (decide (ra < rb))) ∧ ∃ q', w' = W.drewN q' := by
  have h := bef_any A n c xs A2 c2 ys B B2 (W.drewN q) (hR.drewN q) (hY.drewN q) (by omega)
  refine h.mono fun e w' ⟨r, k, he, hr, hw⟩ => ⟨?_, q + k, by rw [hw, World.drewN_drewN]⟩
  have : r = decide (ra < rb) := by rw [Bool.eq_iff_iff, hr, ← hb, decide_eq_true_iff]
  rw [he, this]
theorem bef_yes {A : Option Addr} {n c : Nat} {xs ys : List Int} {A2 : Option Addr} {c2 : Nat} {B B2 : Nat} {W : World} (hb : Bef xs ys) (hR : Rd W B A n xs) (hY : Rd W B2 A2 n ys) (hn : n ≤ 52) :
    Calls Try.prog 58 #[.slice A n c, .slice A2 n c2] W fun e w' => e = .returned (.bool true) ∧ ∃ q', w' = W.drewN q' := by
  have h := bef_any A n c xs A2 c2 ys B B2 W hR hY (by omega)
  refine h.mono fun e w' ⟨r, k, he, hr, hw⟩ => ⟨?_, k, hw⟩
  rw [he, hr.2 hb]
set_option maxRecDepth 20000 in
theorem fnOrders_big (A : Option Addr) (n c : Nat) (A2 : Option Addr) (n2 c2 : Nat) (w : World) (h : 48 < n ∨ 48 < n2) (hn : n ≤ 9223372036854775807) (hn2 : n2 ≤ 9223372036854775807) :
    Calls Try.prog 13 #[.slice A n c, .slice A2 n2 c2] w fun e w' => e = .returned (.bool true) ∧ Below w.heap.size w w' := by
  have HL := hide (long_big A n c A2 n2 c2 w h hn hn2)
  have HB := hide (Below.refl w.heap.size w)
  clear h
  go_enter Try.func13, Try.ntmps13
  go_wp2_with (go_at_call 47; refine HL.out.mono ?_; rintro e w' ⟨rfl, rfl⟩)
  go_ret
  exact ⟨rfl, HB.out⟩

set_option maxRecDepth 20000 in
set_option maxHeartbeats 16000000 in
theorem fnOrders_any (A : Option Addr) (n c : Nat) (zs : List Int) (A2 : Option Addr) (n2 c2 : Nat) (zs2 : List Int) (w : World) (hY : hand.RdY w w.heap.size A n zs) (hn : n ≤ 48) (hY2 : hand.RdY w w.heap.size A2 n2 zs2) (hn2 : n2 ≤ 48) :
    Calls Try.prog 13 #[.slice A n c, .slice A2 n2 c2] w fun e w' => e = .returned (.bool true) ∧ Below w.heap.size w w' := by
  have HL := hide (r8Long_any A A2 n c n2 c2 w hn hn2)
  have HM := hide (fun (W : World) (hb : Below w.heap.size w W) (i m : Nat) (hi : i ≤ 1000) (hm : m ≤ 1000) => r8At_val A2 n2 c2 zs2 w.heap.size i m W (show byts.RdY W w.heap.size A2 n2 zs2 from hY2.below hb) hn2 hi hm)
  have HD := hide (fun (m : Nat) (h1 : 1 ≤ m) (h2 : m ≤ 52) => R8Deck_any A n c zs m w hY (by omega) h1 h2)
  have HDM := hide (fun (m : Nat) (h1 : 1 ≤ m) (h2 : m ≤ 52) (W : World) (hb : Below w.heap.size w W) => R8Deck_any A2 n2 c2 zs2 m W (rdY_more (hY2.below hb) hb.size) (by omega) h1 h2)
  have hr20 := atR_lt zs2 40 (show 0 < 20 by omega)
  have M40 := hide (HM.out w (Below.refl _ _) 40 20 (by omega) (by omega))
  clear hY hY2
  obtain ⟨r20, e20⟩ := mem.ex_eq (atR zs2 40 20)
  rw [e20] at hr20 M40
  clear e20
  go_enter Try.func13, Try.ntmps13
  go_upto_region 4 with (first | (go_at_call 47; refine HL.out.mono ?_; rintro e w' ⟨rfl, rfl⟩) | (go_at_call 48; refine M40.out.mono ?_; rintro e w' ⟨rfl, rfl⟩))
  obtain ⟨N, hN1, hN20, es⟩ : ∃ N : Nat, 1 ≤ N ∧ N ≤ 20 ∧ (1 : Int) + (r20 : Int) = (N : Int) := ⟨1 + r20, by omega, by omega, by omega⟩
  rw [es]
  have hN52 : N ≤ 52 := Nat.le_trans hN20 (by decide)
  have HDN := hide (HD.out N hN1 hN52)
  clear es hr20 HL HD M40
  go_upto_region 5 with (go_at_call 49; refine HDN.out.mono ?_; clear HDN; rintro e x1 ⟨A6, c6, da, rfl, ho, hp, hb⟩)
  have HDA := hide (deck_perm hp (news_deck hN1 hN52))
  have HLA := hide ho.len
  have HPA := hide hp
  have hc6 := ho.cap.1
  have S6 := own_all ho
  have G := hide hb
  clear ho hp hb
  have C1 := hide (HDM.out N hN1 hN52 x1 G.out)
  go_upto_region 6 with (go_at_call 49; refine C1.out.mono ?_; clear C1; rintro e x2 ⟨A7, c7, db, rfl, ho, hp, hb⟩)
  have HDB := hide (deck_perm hp (news_deck hN1 hN52))
  have HLB := hide ho.len
  have HPB := hide hp
  have hc7 := ho.cap.1
  replace G := advG G hb
  replace S6 := adv S6 hb
  have S7 := own_all ho
  clear ho hp hb HDM
  have C1 := hide (o_join HDA.out HDB.out hN52 (S6.out _ here) hc6 (S7.out _ here) hc7)
  go_upto_region 7 with (go_at_call 50; refine C1.out.mono ?_; clear C1; rintro e x3 ⟨A8, c8, rfl, ho, hb⟩)
  have hc8 := ho.cap.1
  replace G := advG G hb
  replace S6 := adv S6 hb
  replace S7 := adv S7 hb
  have S8 := own_all ho
  clear ho hb
  have HDJ := hide (join_deck HDA.out HDB.out HLA.out HLB.out)
  have C1 := hide (o_back HDA.out hN52 (S6.out _ here) hc6)
  go_upto_region 8 with (go_at_call 51; refine C1.out.mono ?_; clear C1; rintro e x4 ⟨A10, c10, rfl, ho, hb⟩)
  have hc10 := ho.cap.1
  replace G := advG G hb
  replace S6 := adv S6 hb
  replace S7 := adv S7 hb
  replace S8 := adv S8 hb
  have S10 := own_all ho
  clear ho hb
  have HDP := hide (pl_deck HDA.out HLA.out)
  have C1 := hide (o_join HDA.out HDP.out hN52 (S6.out _ here) hc6 (S10.out _ here) hc10)
  go_upto_region 9 with (go_at_call 50; refine C1.out.mono ?_; clear C1; rintro e x5 ⟨A12, c12, rfl, ho, hb⟩)
  have hc12 := ho.cap.1
  replace G := advG G hb
  replace S6 := adv S6 hb
  replace S7 := adv S7 hb
  replace S8 := adv S8 hb
  replace S10 := adv S10 hb
  have S12 := own_all ho
  clear ho hb
  have C1 := hide (o_cyc HDA.out hN52 (S6.out _ here) hc6)
  go_upto_region 10 with (go_at_call 42; refine C1.out.mono ?_; clear C1; rintro e x6 ⟨A14, c14, rfl, ho, hb⟩)
  have hc14 := ho.cap.1
  replace G := advG G hb
  replace S6 := adv S6 hb
  replace S7 := adv S7 hb
  replace S8 := adv S8 hb
  replace S10 := adv S10 hb
  replace S12 := adv S12 hb
  have S14 := own_all ho
  clear ho hb
  obtain ⟨O, hO⟩ := mem.ex_eq (ordTo (cycL da) (cycL da).length)
  have HO := hide hO
  clear hO
  have CO := hide (o_order HDA.out hN52 (S6.out _ here) hc6)
  rw [HO.out] at CO
  have C1 := hide (CO.out)
  go_upto_region 11 with (go_at_call 46; refine C1.out.mono ?_; clear C1; rintro e x7 ⟨rfl, hb⟩)
  replace G := advG G hb
  replace S6 := adv S6 hb
  replace S7 := adv S7 hb
  replace S8 := adv S8 hb
  replace S10 := adv S10 hb
  replace S12 := adv S12 hb
  replace S14 := adv S14 hb
  clear hb
  clear CO
  have C1 := hide (o_sign HDA.out hN52 (S6.out _ here) hc6)
  go_upto_region 12 with (go_at_call 44; refine C1.out.mono ?_; clear C1; rintro e x8 ⟨rfl, hb⟩)
  replace G := advG G hb
  replace S6 := adv S6 hb
  replace S7 := adv S7 hb
  replace S8 := adv S8 hb
  replace S10 := adv S10 hb
  replace S12 := adv S12 hb
  replace S14 := adv S14 hb
  clear hb
  have C1 := hide (o_sign HDB.out hN52 (S7.out _ here) hc7)
  go_upto_region 13 with (go_at_call 44; refine C1.out.mono ?_; clear C1; rintro e x9 ⟨rfl, hb⟩)
  replace G := advG G hb
  replace S6 := adv S6 hb
  replace S7 := adv S7 hb
  replace S8 := adv S8 hb
  replace S10 := adv S10 hb
  replace S12 := adv S12 hb
  replace S14 := adv S14 hb
  clear hb
  have C1 := hide (o_sign HDJ.out hN52 (S8.out _ here) hc8)
  go_upto_region 14 with (go_at_call 44; refine C1.out.mono ?_; clear C1; rintro e x10 ⟨rfl, hb⟩)
  replace G := advG G hb
  replace S6 := adv S6 hb
  replace S7 := adv S7 hb
  replace S8 := adv S8 hb
  replace S10 := adv S10 hb
  replace S12 := adv S12 hb
  replace S14 := adv S14 hb
  clear hb
  have hsg := sgn_join HDA.out HDB.out HLA.out HLB.out
  obtain ⟨sx, hsx⟩ := mem.ex_eq (sgnOut da)
  obtain ⟨sy, hsy⟩ := mem.ex_eq (sgnOut db)
  obtain ⟨sz, hsz⟩ := mem.ex_eq (sgnOut (joinTo da db N))
  rw [hsx, hsy, hsz]
  rw [hsx, hsy, hsz] at hsg
  have HXY := hide (show wrap64 (sx * sy) = sz by
    rw [← hsg.1]
    refine IntWalk.wrap64_in _ ?_
    rw [hsg.1]
    rcases hsg.2.1 with h | h <;> rcases hsg.2.2 with h2 | h2 <;> rw [h, h2] <;> omega)
  have hx1 := hsg.2.1
  clear hsg hsx hsy hsz
  have C1 := hide (o_deck (c := c8) HDJ.out hN52 (S8.out _ here))
  clear HDJ
  go_cut [151] from 102 to 151 (fun v151 W => v151 = .bool false ∧ Below x10.heap.size x10 W)
  case first =>
    refine seqt.plain_cut 35 ?_
    simp only [List.take_succ_cons, List.take_zero, List.drop_succ_cons, List.drop_zero]
    go_wp2
    show wpList _ _ _ _ _ _
    rw [HXY.out]
    rcases hx1 with rfl | rfl
    · go_wp2_with (go_at_call 52; refine C1.out.mono ?_; clear C1; rintro e W ⟨rfl, hb⟩)
      go_meet
      case rel => exact ⟨rfl, hb⟩
    · go_wp2_with (go_at_call 52; refine C1.out.mono ?_; clear C1; rintro e W ⟨rfl, hb⟩)
      go_meet
      case rel => exact ⟨rfl, hb⟩
  case rest =>
    obtain ⟨rfl, hb⟩ := hcut
    skip
    replace G := advG G hb
    replace S6 := adv S6 hb
    replace S7 := adv S7 hb
    replace S8 := adv S8 hb
    replace S10 := adv S10 hb
    replace S12 := adv S12 hb
    replace S14 := adv S14 hb
    clear hb hx1 HXY
    have hCL := hide (cyc_facts HLA.out (deck_ord HDA.out))
    have hCT := hide (cyc_tot (deck_ord HDA.out))
    have HIT := hide (fun (x : Nat) (hx : x < N) => it_order (deck_ord HDA.out) (x := x) (by rw [HLA.out]; exact hx))
    rw [HO.out] at HIT
    obtain ⟨L, hL⟩ := mem.ex_eq (cycL da).length
    have HPL := hide (fun (k : Nat) (hk : k ≤ L) => preS_le (cycL da) k (by rw [hL]; exact hk))
    have HPE := hide (show preS (cycL da) L = N by rw [preS_eq _ _ (by rw [hL]; exact Nat.le_refl _), List.take_of_length_le (by rw [hL]; exact Nat.le_refl _)]; exact hCT.out.trans HLA.out)
    have HUP := hide (fun (k : Nat) (hk : k + 1 < L) => cyc_up (xs := da) (k := k) (by rw [hL]; exact hk))
    have HDV := hide (fun (k : Nat) (hk : k < L) => show ((cycL da).getD k 0).toNat ∣ O by rw [← HO.out]; exact ord_dvd _ _ k (by rw [hL]; exact hk))
    have HC1 := hide (fun (k : Nat) (hk : k < L) => hCL.out.2 k (by rw [hL]; exact hk))
    have HCB := hide (fun (k : Nat) (hk : k ≤ L) => Nat.le_trans (HPL.out k hk) hCL.out.1)
    rw [hL] at S14
    rw [hL]
    have hLN : L ≤ 52 := by rw [← hL]; exact Nat.le_trans (cycL_len (xs := da)) (by rw [HLA.out]; exact hN52)
    clear hL hCL hCT HPL
    go_wp2
    go_loopw [24, 25] (fun v24 i wz => ∃ k q : Nat, k ≤ L ∧ v24 = .int .i64 ((preS (cycL da) k : Nat) : Int) ∧ i = .int .i64 (k : Int) ∧ Hid (wz = wc.drewN q)) (fun _ i _ => L - (intOf i).toNat)
    case atStart => exact ⟨0, 0, Nat.zero_le _, rfl, rfl, rfl⟩
    case round =>
      obtain ⟨k, q, hk, rfl, rfl, hw⟩ := hrel
      by_cases hlt : k < L
      · obtain ⟨b, o, hbo, _, hcx⟩ := (S14.out (wc.drewN q) (bdrewN here q)).at_ hlt
        obtain rfl := hbo
        obtain ⟨cc, hcc⟩ : ∃ cc : Nat, (cycL da).getD k 0 = (cc : Int) := ⟨((cycL da).getD k 0).toNat, by have := HC1.out k hlt; omega⟩
        have h1 := HC1.out k hlt
        have hd := HDV.out k hlt
        rw [hcc] at hcx h1 hd
        rw [Int.toNat_natCast] at hd
        have hps : preS (cycL da) (k + 1) = preS (cycL da) k + cc := by rw [preS, hcc, Int.toNat_natCast]
        have hpb := HCB.out (k + 1) hlt
        rw [hps] at hpb
        have HPS := hide hps
        obtain ⟨ps, hpse⟩ := mem.ex_eq (preS (cycL da) k)
        rw [hpse] at hpb ⊢
        have HPSE := hide hpse
        have hc1 : 1 ≤ cc := by omega
        have hc0 : ¬ (cc : Int) = 0 := by omega
        have hc00 : ¬ cc = 0 := by omega
        have hm : (O : Int).tmod (cc : Int) = 0 := by rw [Int.tmod_eq_emod_of_nonneg (by omega)]; exact Int.emod_eq_zero_of_dvd (Int.natCast_dvd_natCast.2 hd)
        have hcx : wr.cell? ⟨b, o + k, none⟩ = some (.int .i64 (cc : Int)) := by rw [hw.out]; exact hcx
        have hcl1 : ¬ (cc : Int) < 1 := by omega
        have hkc : (0 : Int) ≤ (k : Int) := by omega
        have hcc2 := hcc
        clear h1 hd hcc hps hpse
        by_cases hk0 : 0 < k
        · obtain ⟨b', o', hbo, _, hcy⟩ := (S14.out (wc.drewN q) (bdrewN here q)).at_ (show k - 1 < L by omega)
          obtain ⟨rfl, rfl⟩ : b = b' ∧ o = o' := by simpa using hbo
          obtain ⟨pp, hpp⟩ : ∃ pp : Nat, (cycL da).getD (k - 1) 0 = (pp : Int) := ⟨((cycL da).getD (k - 1) 0).toNat, by have := HC1.out (k - 1) (by omega); omega⟩
          have hup := HUP.out (k - 1) (by omega)
          rw [show k - 1 + 1 = k by omega, hpp, hcc2] at hup
          rw [hpp] at hcy
          have hcy : wr.cell? ⟨b, o + (k - 1), none⟩ = some (.int .i64 (pp : Int)) := by rw [hw.out]; exact hcy
          have hd0 : (0 : Int) < (k : Int) := by omega
          have hq1 : ((k : Int) - 1).toNat = k - 1 := by omega
          have hq2 : (0 : Int) ≤ (k : Int) - 1 := by omega
          have hq3 : (k : Int) - 1 < (L : Int) := by omega
          have hq5 : (1 : Int) ≤ (k : Int) := by omega
          have hq4 : IntKind.i64.wrap ((k : Int) - 1) = (k : Int) - 1 := IntWalk.i64_in _ ⟨by omega, by omega⟩
          have hcp : ¬ (cc : Int) < (pp : Int) := by omega
          have hcp2 : ¬ cc < pp := by omega
          clear hbo hpp hup hcc2 HC1 HUP HDV HCB
          go_upto_region 21 with fail
          go_quiet (fail)
          go_wp2
          go_roundw
          case rel => exact ⟨k + 1, _, Nat.succ_le_of_lt hlt, by rw [HPS.out, HPSE.out]; go_num, by go_num, hide (by rw [hw.out]; exact World.drewN_drewN _ _ _)⟩
          case measure => simp [intOf]; omega
        · have hd0 : ¬ (0 : Int) < (k : Int) := by omega
          clear hcc2 HC1 HUP HDV HCB
          go_upto_region 21 with fail
          go_quiet (fail)
          go_wp2
          go_roundw
          case rel => exact ⟨k + 1, _, Nat.succ_le_of_lt hlt, by rw [HPS.out, HPSE.out]; go_num, by go_num, hide (by rw [hw.out]; exact World.drewN_drewN _ _ _)⟩
          case measure => simp [intOf]; omega
      · obtain rfl : k = L := by omega
        rw [HPE.out]
        have hbq : Below wc.heap.size wc wr := by rw [hw.out]; exact bdrewN here q
        replace G := advG G hbq
        replace S6 := adv S6 hbq
        replace S7 := adv S7 hbq
        replace S8 := adv S8 hbq
        replace S10 := adv S10 hbq
        replace S12 := adv S12 hbq
        clear hw hbq S14 HPE HUP HDV HC1 HCB hLN hlt
        obtain ⟨wd, rfl⟩ : ∃ wd : World, wd = wr := ⟨_, rfl⟩
        obtain ⟨R, hR⟩ := mem.ex_eq (O % 840)
        have hm840 : (O : Int).tmod 840 = (R : Int) := by rw [Int.tmod_eq_emod_of_nonneg (by omega), ← hR]; omega
        have HRO := hide (show O ≤ 840 → R ≠ 0 → R = O by omega)
        have hR840 : R < 840 := by omega
        clear hR
        have hpf := fn_pf (deck_ord HDA.out)
        rw [HLA.out] at hpf
        have HPF := hide hpf
        have HFA := hide (fun (x : Nat) (hx : x < N) => (fn_at (deck_ord HDA.out) (x := x) (by rw [HLA.out]; exact hx)).1)
        have HFB := hide (fun (x : Nat) (hx : x < N) => fn_at (deck_ord HDB.out) (x := x) (by rw [HLB.out]; exact hx))
        have HSM := hide (fun (x : Nat) (hx : x < N) => pl_same HDA.out HLA.out hx)
        clear hpf
        go_wp2
        go_loopw [26] (fun i wz => ∃ v q : Nat, v ≤ N ∧ i = .int .i64 (v : Int) ∧ Hid (wz = wd.drewN q)) (fun i _ => N - (intOf i).toNat)
        case atStart => exact ⟨0, 0, Nat.zero_le _, rfl, rfl⟩
        case round =>
          obtain ⟨v, q, hv, rfl, hw⟩ := hrel
          by_cases hvN : v < N
          · obtain ⟨bi, hbi, hbN⟩ : ∃ bi : Nat, db.getD v 0 = (bi : Int) ∧ bi < N := ⟨fnL db v, (HFB.out v hvN).1, by have := (HFB.out v hvN).2; rw [HLB.out] at this; exact this⟩
            obtain ⟨b8, o8, hb8, _, c8x⟩ := (S8.out (wd.drewN q) (bdrewN here q)).at_ hvN
            obtain ⟨b7, o7, hb7, _, c7x⟩ := (S7.out (wd.drewN q) (bdrewN here q)).at_ hvN
            obtain ⟨b6, o6, hb6, _, c6x⟩ := (S6.out (wd.drewN q) (bdrewN here q)).at_ hbN
            obtain ⟨b12, o12, hb12, _, c12x⟩ := (S12.out (wd.drewN q) (bdrewN here q)).at_ hvN
            have H6 := hide (fun (q x : Nat) (hx : x < N) => (S6.out (wd.drewN q) (bdrewN here q)).at_ hx)
            obtain rfl := hb8
            obtain rfl := hb7
            obtain rfl := hb6
            obtain rfl := hb12
            rw [join_at hvN, hbi, Int.toNat_natCast] at c8x
            rw [hbi] at c7x
            rw [HSM.out v hvN] at c12x
            obtain ⟨y, hy⟩ := mem.ex_eq (da.getD bi 0)
            rw [hy] at c8x c6x
            have c8x : wr.cell? ⟨b8, o8 + v, none⟩ = some (.int .i64 y) := by rw [hw.out]; exact c8x
            have c7x : wr.cell? ⟨b7, o7 + v, none⟩ = some (.int .i64 (bi : Int)) := by rw [hw.out]; exact c7x
            have c6x : wr.cell? ⟨b6, o6 + bi, none⟩ = some (.int .i64 y) := by rw [hw.out]; exact c6x
            have c12x : wr.cell? ⟨b12, o12 + v, none⟩ = some (.int .i64 (v : Int)) := by rw [hw.out]; exact c12x
            have hne0 : (y != y) = false := by simp
            have hne1 : ((v : Int) != (v : Int)) = false := by simp
            clear hy hbi
            go_upto_region 26 with fail
            go_quiet (fail)
            clear c8x c7x c6x c12x hne0
            go_wp2
            obtain ⟨wi, rfl⟩ : ∃ wi : World, wi = wr := ⟨_, rfl⟩
            go_loopw [27, 28] (fun v27 v28 wz => ∃ t q2 : Nat, t ≤ R ∧ v28 = .int .i64 (t : Int) ∧ v27 = .int .i64 ((it (fnL da) t v : Nat) : Int) ∧ Hid (wz = wi.drewN q2)) (fun _ v28 _ => R - (intOf v28).toNat)
            case atStart => exact ⟨0, nq, Nat.zero_le _, rfl, rfl, rfl⟩
            case round =>
              obtain ⟨t, q2, ht, rfl, rfl, hw2⟩ := hrel
              have hitN := HPF.out.it hvN t
              have HSTEP := hide (show fnL da (it (fnL da) t v) = it (fnL da) (t + 1) v from rfl)
              have HFX := hide (HFA.out _ hitN)
              by_cases htR : t < R
              · obtain ⟨b', o', hb', _, cx⟩ := H6.out (q + q2) (it (fnL da) t v) hitN
                obtain ⟨rfl, rfl⟩ : b6 = b' ∧ o6 = o' := by simpa using hb'
                rw [HFX.out] at cx
                obtain ⟨z, hz⟩ := mem.ex_eq (it (fnL da) t v)
                have HZ := hide hz
                rw [hz] at cx hitN ⊢
                obtain ⟨z2, hz2⟩ := mem.ex_eq (fnL da z)
                rw [hz2] at cx
                have HZ2 := hide hz2
                have cx : wr.cell? ⟨b6, o6 + z, none⟩ = some (.int .i64 (z2 : Int)) := by rw [hw2.out, hw.out, World.drewN_drewN]; exact cx
                clear hz hz2 hb' HFX
                go_wp2
                go_roundw
                case rel => exact ⟨t + 1, q2, Nat.succ_le_of_lt htR, by go_num, by rw [← HSTEP.out, HZ.out, HZ2.out], hw2⟩
                case measure => simp [intOf]; omega
              · obtain rfl : t = R := by omega
                have hwq : wr = wd.drewN (q + q2) := by rw [hw2.out, hw.out, World.drewN_drewN]
                have HW := hide hwq
                clear hwq
                by_cases hO : O ≤ 840
                · by_cases ht0 : t = 0
                  · have hz0 : ((t : Int) != 0) = false := by rw [ht0]; rfl
                    have hOi : (O : Int) ≤ 840 := by omega
                    clear ht0 htR
                    go_wp2
                    go_roundw
                    case rel => exact ⟨v + 1, q + q2, Nat.succ_le_of_lt hvN, by go_num, HW⟩
                    case measure => simp [intOf]; omega
                  · have hz0 : ((t : Int) != 0) = true := by rw [bne_iff_ne]; omega
                    have hOi : (O : Int) ≤ 840 := by omega
                    have hit0 : it (fnL da) t v = v := by rw [HRO.out hO ht0]; exact HIT.out v hvN
                    rw [hit0]
                    clear ht0 htR hit0
                    go_wp2
                    go_roundw
                    case rel => exact ⟨v + 1, q + q2, Nat.succ_le_of_lt hvN, by go_num, HW⟩
                    case measure => simp [intOf]; omega
                · have hOi : ¬ (O : Int) ≤ 840 := by omega
                  clear htR
                  go_wp2
                  go_roundw
                  case rel => exact ⟨v + 1, q + q2, Nat.succ_le_of_lt hvN, by go_num, HW⟩
                  case measure => simp [intOf]; omega
          · obtain rfl : v = N := by omega
            have hbq : Below wd.heap.size wd wr := by rw [hw.out]; exact bdrewN here q
            replace G := advG G hbq
            replace S6 := adv S6 hbq
            replace S7 := adv S7 hbq
            replace S10 := adv S10 hbq
            clear hw hbq S8 S12 HRO HPF HFA HFB HSM hm840 HIT hR840
            have HNA := hide (show da.Perm (news v) by have h := ord_news (deck_ord HDA.out); rw [HLA.out] at h; exact h)
            have HNB := hide (show db.Perm (news v) by have h := ord_news (deck_ord HDB.out); rw [HLB.out] at h; exact h)
            have HRL := hide (rank_lt HLA.out hN20)
            have HUB := hide (un_back HLA.out hN20 HNA.out)
            have HRB := hide (rank_bef HLA.out HLB.out hN20 HNA.out HNB.out)
            have HRP := hide (rank_prev HLA.out hN20 HNA.out)
            have CA := hide (o_rank HDA.out hN20 (S6.out _ here) hc6)
            have CB := hide (fun (W : World) (hb : Below wr.heap.size wr W) => o_rank (c := c7) HDB.out hN20 (S7.out W hb) hc7)
            obtain ⟨ra, hra⟩ := mem.ex_eq (rankW da)
            obtain ⟨rb, hrb⟩ := mem.ex_eq (rankW db)
            rw [hra, hrb] at HRB
            rw [hra] at CA HUB HRP
            rw [hrb] at CB
            have hra0 : 0 ≤ ra := by have h := HRL.out; rw [← h.1, hra] at h; exact h.2.1
            have hraF : ra < facW v := by have h := HRL.out; rw [← h.1, hra] at h; exact h.2.2
            have hraB : ra < 9223372036854775807 := by
              have h6 := fac_facts (v - 1) (by omega)
              rw [show v - 1 + 1 = v by omega] at h6
              omega
            clear hra hrb HRL HNA HNB
            go_upto_region 36 with (go_at_call 53; refine CA.out.mono ?_; clear CA; rintro e y1 ⟨rfl, hb⟩)
            replace G := advG G hb
            replace S6 := adv S6 hb
            replace S7 := adv S7 hb
            replace S10 := adv S10 hb
            have T1 := hide hb
            clear hb
            have CU := hide (o_unrank (w := y1) hN1 hN20 hra0 hraF)
            rw [HUB.out] at CU
            go_upto_region 37 with (go_at_call 54; refine CU.out.mono ?_; clear CU; rintro e y2 ⟨A31, c31, rfl, ho, hb⟩)
            have hc31 := ho.cap.1
            replace G := advG G hb
            replace S6 := adv S6 hb
            replace S7 := adv S7 hb
            replace S10 := adv S10 hb
            replace T1 := advG T1 hb
            have S31 := own_all ho
            clear ho hb
            go_upto_region 38 with (go_at_call 53; refine (CB.out _ T1.out).mono ?_; clear CB T1; rintro e y3 ⟨rfl, hb⟩)
            replace G := advG G hb
            replace S6 := adv S6 hb
            replace S7 := adv S7 hb
            replace S10 := adv S10 hb
            replace S31 := adv S31 hb
            clear hb
            have hds := desc_small HLA.out hN52
            have CD := hide (o_desc HDA.out hN52 (S6.out _ here) hc6)
            have CR := hide (fun (W : World) (hb : Below y3.heap.size y3 W) => o_runs (c := c10) HDA.out hN52 HLA.out (S10.out W hb) hc10)
            obtain ⟨dd, hdd⟩ := mem.ex_eq (descOut da)
            rw [hdd] at CD CR hds
            clear hdd
            go_upto_region 39 with (go_at_call 55; refine CD.out.mono ?_; clear CD; rintro e y4 ⟨rfl, hb⟩)
            have CR4 := hide (CR.out _ hb)
            replace G := advG G hb
            replace S6 := adv S6 hb
            replace S7 := adv S7 hb
            replace S31 := adv S31 hb
            clear hb CR
            go_upto_region 40 with (go_at_call 56; refine CR4.out.mono ?_; clear CR4; rintro e y5 ⟨rfl, hb⟩)
            replace G := advG G hb
            replace S6 := adv S6 hb
            replace S7 := adv S7 hb
            replace S31 := adv S31 hb
            clear hb S10
            have CS := hide (same_eq (c := c31) (c2 := c6) (S31.out _ here) (S6.out _ here) hN52)
            have CF := hide (fun (q : Nat) => bef_rank (c := c6) (c2 := c7) q HRB.out (S6.out _ here) (S7.out _ here) hN52)
            go_upto_region 42 with (first | (go_at_call 57; refine CS.out.mono ?_; clear CS; rintro e W ⟨rfl, q1, rfl⟩) | (go_at_call 58; refine (CF.out _).mono ?_; clear CF; rintro e W ⟨rfl, q2, rfl⟩))
            obtain ⟨y6, hy6⟩ : ∃ z : World, y5.drewN q2 = z := ⟨_, rfl⟩
            rw [hy6]
            have hb56 : Below y5.heap.size y5 y6 := by rw [← hy6]; exact bdrewN here q2
            replace G := advG G hb56
            replace S6 := adv S6 hb56
            clear hb56 hy6 S7 S31 hds
            by_cases hr0 : 0 < ra
            · have CU := hide (o_unrank (w := y6) hN1 hN20 (show 0 ≤ ra - 1 by omega) (show ra - 1 < facW v by omega))
              have hbf := HRP.out hr0
              obtain ⟨bd, hbd⟩ := mem.ex_eq (urTo v (ra - 1) v).2.1
              rw [hbd] at CU hbf
              have HBF := hide hbf
              clear hbd hbf
              go_upto_region 44 with (go_at_call 54; refine CU.out.mono ?_; clear CU; rintro e y7 ⟨A39, c39, rfl, ho, hb⟩)
              replace G := advG G hb
              replace S6 := adv S6 hb
              have CF := hide (bef_yes (c := c39) (c2 := c6) HBF.out ho.rd (S6.out _ here) hN52)
              clear ho hb
              go_upto_region 46 with (go_at_call 58; refine CF.out.mono ?_; clear CF; rintro e W ⟨rfl, q3, rfl⟩)
              obtain ⟨y8, hy8⟩ : ∃ z : World, y7.drewN q3 = z := ⟨_, rfl⟩
              rw [hy8]
              replace G := hide (show Below w.heap.size w y8 by rw [← hy8]; exact bdrewN G.out q3)
              clear hy8 S6 hr0
              have hs41 := atR_lt zs2 41 (show 0 < 256 by omega)
              have hs42 := atR_lt zs2 42 (show 0 < 8 by omega)
              have M41 := hide (HM.out y8 G.out 41 256 (by decide) (by decide))
              obtain ⟨s1, e1⟩ := mem.ex_eq (atR zs2 41 256)
              obtain ⟨s2, e2⟩ := mem.ex_eq (atR zs2 42 8)
              rw [e1] at hs41 M41
              rw [e2] at hs42
              have HA := hide ((Below.refl y8.heap.size y8).alloc (Nat.le_refl _) (.cells #[.int .i64 7, .int .i64 (s1 : Int)] 2))
              have M42 := hide (HM.out _ (G.out.trans (HA.out.mono G.out.size)) 42 8 (by decide) (by decide))
              rw [e2] at M42
              obtain ⟨wk, hw1, hw8, hwe⟩ : ∃ wk : Nat, 1 ≤ wk ∧ wk ≤ 8 ∧ (1 : Int) + (s2 : Int) = (wk : Int) := ⟨1 + s2, by omega, by omega, by omega⟩
              have CSH := hide (o_shared (c := 2) hN1 hN20 hs41 hw1 hw8 (rd_two y8 7 (s1 : Int) 2) (Nat.le_refl 2))
              rw [← hwe] at CSH
              clear e1 e2 hwe
              go_upto_region 47 with (first | (go_at_call 48; refine M41.out.mono ?_; clear M41; rintro e w' ⟨rfl, rfl⟩) | (go_at_call 48; refine M42.out.mono ?_; clear M42; rintro e w' ⟨rfl, rfl⟩) | (go_at_call 59; refine CSH.out.mono ?_; clear CSH; rintro e z1 ⟨A41, c41, sv, rfl, ho, hb⟩))
              have HB1 := hide (HA.out.trans (hb.mono HA.out.size))
              replace G := advG G HB1.out
              have S41 := own_all ho
              clear ho hb HA HB1
              have CDR := hide (o_draw (w := z1) hN1 hN20)
              go_upto_region 48 with (go_at_call 60; refine CDR.out.mono ?_; clear CDR; rintro e z2 ⟨A43, c43, sd, rfl, ho, hb⟩)
              have hc43 := ho.cap.1
              replace G := advG G hb
              replace S41 := adv S41 hb
              have S43 := own_all ho
              clear ho hb
              have CT := hide (o_rank (drawn_deck hN1 hN20) hN20 (S43.out _ here) hc43)
              obtain ⟨rd, hrd⟩ := mem.ex_eq (rankW (drawn v 7).1)
              rw [hrd] at CT S41
              clear hrd
              go_upto_region 49 with (go_at_call 53; refine CT.out.mono ?_; clear CT; rintro e z3 ⟨rfl, hb⟩)
              replace G := advG G hb
              replace S41 := adv S41 hb
              obtain ⟨b41, o41, rfl, _, c41x⟩ := (S41.out z3 here).2 (by decide)
              have c41y : z3.cell? ⟨b41, o41, none⟩ = some (.int .i64 rd) := c41x 0 (by decide)
              clear c41x S41 S43 hb
              go_wp2
              go_ret
              exact ⟨rfl, G.out⟩
            · go_upto_region 46 with fail
              clear S6 hr0
              have hs41 := atR_lt zs2 41 (show 0 < 256 by omega)
              have hs42 := atR_lt zs2 42 (show 0 < 8 by omega)
              have M41 := hide (HM.out y6 G.out 41 256 (by decide) (by decide))
              obtain ⟨s1, e1⟩ := mem.ex_eq (atR zs2 41 256)
              obtain ⟨s2, e2⟩ := mem.ex_eq (atR zs2 42 8)
              rw [e1] at hs41 M41
              rw [e2] at hs42
              have HA := hide ((Below.refl y6.heap.size y6).alloc (Nat.le_refl _) (.cells #[.int .i64 7, .int .i64 (s1 : Int)] 2))
              have M42 := hide (HM.out _ (G.out.trans (HA.out.mono G.out.size)) 42 8 (by decide) (by decide))
              rw [e2] at M42
              obtain ⟨wk, hw1, hw8, hwe⟩ : ∃ wk : Nat, 1 ≤ wk ∧ wk ≤ 8 ∧ (1 : Int) + (s2 : Int) = (wk : Int) := ⟨1 + s2, by omega, by omega, by omega⟩
              have CSH := hide (o_shared (c := 2) hN1 hN20 hs41 hw1 hw8 (rd_two y6 7 (s1 : Int) 2) (Nat.le_refl 2))
              rw [← hwe] at CSH
              clear e1 e2 hwe
              go_upto_region 47 with (first | (go_at_call 48; refine M41.out.mono ?_; clear M41; rintro e w' ⟨rfl, rfl⟩) | (go_at_call 48; refine M42.out.mono ?_; clear M42; rintro e w' ⟨rfl, rfl⟩) | (go_at_call 59; refine CSH.out.mono ?_; clear CSH; rintro e z1 ⟨A41, c41, sv, rfl, ho, hb⟩))
              have HB1 := hide (HA.out.trans (hb.mono HA.out.size))
              replace G := advG G HB1.out
              have S41 := own_all ho
              clear ho hb HA HB1
              have CDR := hide (o_draw (w := z1) hN1 hN20)
              go_upto_region 48 with (go_at_call 60; refine CDR.out.mono ?_; clear CDR; rintro e z2 ⟨A43, c43, sd, rfl, ho, hb⟩)
              have hc43 := ho.cap.1
              replace G := advG G hb
              replace S41 := adv S41 hb
              have S43 := own_all ho
              clear ho hb
              have CT := hide (o_rank (drawn_deck hN1 hN20) hN20 (S43.out _ here) hc43)
              obtain ⟨rd, hrd⟩ := mem.ex_eq (rankW (drawn v 7).1)
              rw [hrd] at CT S41
              clear hrd
              go_upto_region 49 with (go_at_call 53; refine CT.out.mono ?_; clear CT; rintro e z3 ⟨rfl, hb⟩)
              replace G := advG G hb
              replace S41 := adv S41 hb
              obtain ⟨b41, o41, rfl, _, c41x⟩ := (S41.out z3 here).2 (by decide)
              have c41y : z3.cell? ⟨b41, o41, none⟩ = some (.int .i64 rd) := c41x 0 (by decide)
              clear c41x S41 S43 hb
              go_wp2
              go_ret
              exact ⟨rfl, G.out⟩

end Go.Proofs.Ytfncmgaeecjacaa.orb
