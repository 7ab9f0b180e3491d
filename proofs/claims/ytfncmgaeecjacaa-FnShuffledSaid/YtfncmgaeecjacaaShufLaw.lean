/-
  The statement on shuffles, walked. Conditions: those of each theorem.
-/
import Derived.Test.YtfncmgaeecjacaaShuW
import Derived.ChangeOld
import Derived.Below
import Derived.Deep.RegionWith
import Derived.Test.YtfncmgaeecjacaaSeqT
namespace Go.Proofs.Ytfncmgaeecjacaa.deck
open Go.RowKit
open base mem grid byts

theorem rdY_more {w : World} {B B' n : Nat} {A : Option Addr} {zs : List Int} (h : hand.RdY w B A n zs) (hB : B ≤ B') : hand.RdY w B' A n zs :=
  ⟨h.1, fun hn => by
    obtain ⟨b, o, e, hb, hc⟩ := h.2.1 hn
    exact ⟨b, o, e, by omega, hc⟩, h.2.2⟩
theorem ownB_cap {w : World} {B : Nat} {A : Option Addr} {n c : Nat} {xs : List Bool} (h : OwnB w B A n c xs) : n ≤ c := by
  rcases h.2 with ⟨h1, h0⟩ | ⟨g, cap, cur, hv, hb, hg, hc, _⟩
  · injection h1 with _ h2 h3
    omega
  · injection hv with _ h2 h3
    omega
theorem r8Same_eq {A : Option Addr} {n c : Nat} {xs : List Int} {A2 : Option Addr} {c2 : Nat} {B B2 : Nat} {W : World} (q : Nat) (hR : Rd W B A n xs) (hY : Rd W B2 A2 n xs) (hn : n ≤ 52) :
    Calls Try.prog 57 #[.slice A n c, .slice A2 n c2] (W.drewN q) fun e w' => e = .returned (.bool true) ∧ ∃ q', w' = W.drewN q' := by
  have h := r8Same_any A n c xs A2 c2 xs B B2 (W.drewN q) (hR.drewN q) (hY.drewN q) (by omega)
  rw [show decide (xs = xs) = true from decide_eq_true rfl] at h
  exact h.mono fun e w' ⟨k, he, hw⟩ => ⟨he, q + k, by rw [hw, World.drewN_drewN]⟩
theorem r8Same_eq0 {A : Option Addr} {n c : Nat} {xs : List Int} {A2 : Option Addr} {c2 : Nat} {B B2 : Nat} {W : World} (hR : Rd W B A n xs) (hY : Rd W B2 A2 n xs) (hn : n ≤ 52) :
    Calls Try.prog 57 #[.slice A n c, .slice A2 n c2] W fun e w' => e = .returned (.bool true) ∧ ∃ q', w' = W.drewN q' := by
  have h := r8Same_any A n c xs A2 c2 xs B B2 W hR hY (by omega)
  rw [show decide (xs = xs) = true from decide_eq_true rfl] at h
  exact h.mono fun e w' ⟨k, he, hw⟩ => ⟨he, k, hw⟩
theorem at_top {w : World} {B : Nat} {A : Option Addr} {n : Nat} {xs : List Int} (h : Rd w B A n xs) (h0 : 0 < n) : ∃ b o, A = some ⟨b, o, none⟩ ∧ b < B ∧ w.cell? ⟨b, o, none⟩ = some (.int .i64 (xs.getD 0 0)) ∧ w.cell? ⟨b, o + (n - 1), none⟩ = some (.int .i64 (xs.getD (n - 1) 0)) := by
  obtain ⟨b, o, e, hb, hc⟩ := h.2 h0
  exact ⟨b, o, e, hb, hc 0 h0, hc (n - 1) (by omega)⟩
theorem rev_top {xs : List Int} {n : Nat} (hl : xs.length = n) (h0 : 0 < n) : xs.reverse.getD 0 0 = xs.getD (n - 1) 0 := by
  unfold List.getD
  rw [List.getElem?_reverse (by omega), hl, Nat.sub_zero]
theorem below_cell {B b o : Nat} {w W : World} {v : Value} (hb : Below B w W) (hB : b < B) (h : w.cell? ⟨b, o, none⟩ = some v) : W.cell? ⟨b, o, none⟩ = some v := (hb.cell (p := ⟨b, o, none⟩) hB).trans h
theorem perf_head {xs : List Int} (h2 : 2 ≤ xs.length) : (perf xs false).getD 0 0 = xs.getD 0 0 ∧ (perf xs true).getD 1 0 = xs.getD 0 0 := by
  have h1 : 0 < xs.length / 2 := by omega
  have ha := (pf_at xs false (xs.length / 2) (j := 0) (k := xs.length / 2) h1).1
  have hb := (pf_at xs true (xs.length / 2) (j := 0) (k := xs.length / 2) h1).2
  exact ⟨ha, hb⟩
theorem r8Same_no {A : Option Addr} {n c : Nat} {xs ys : List Int} {A2 : Option Addr} {c2 : Nat} {B B2 : Nat} {W : World} (hR : Rd W B A n xs) (hY : Rd W B2 A2 n ys) (hn : n ≤ 52) (hne : xs ≠ ys) (q : Nat) :
    Calls Try.prog 57 #[.slice A n c, .slice A2 n c2] (W.drewN q) fun e w' => e = .returned (.bool false) ∧ ∃ q', w' = W.drewN q' := by
  have h := r8Same_any A n c xs A2 c2 ys B B2 (W.drewN q) (hR.drewN q) (hY.drewN q) (by omega)
  rw [show decide (xs = ys) = false from decide_eq_false hne] at h
  exact h.mono fun e w' ⟨k, he, hw⟩ => ⟨he, q + k, by rw [hw, World.drewN_drewN]⟩
theorem pf_steps {es : List Int} {E kk : Nat} {b : Bool} (hd : deckB es = true) (hl : es.length = E) (he : E % 2 = 0) (hb : pfIter E b kk = news E) (hn : ∀ i, 0 < i → i < kk → pfIter E b i ≠ news E) :
    pfI es b kk = es ∧ (∀ i, 0 < i → i < kk → pfI es b i ≠ es) ∧ (∀ i, deckB (pfI es b i) = true) := by
  subst hl
  exact ⟨pfI_back he hb, fun i h0 h1 => pfI_not (deck_ord hd) he (hn i h0 h1), fun i => deck_perm (pfI_perm b he i) hd⟩
theorem below_drewN {B q : Nat} {a W : World} (h : Below B a W) : Below B a (W.drewN q) := bdrewN h q
theorem two_cells {w : World} {B : Nat} {A : Option Addr} {n : Nat} {xs : List Int} (h : Rd w B A n xs) (h2 : 2 ≤ n) : ∃ b o, A = some ⟨b, o, none⟩ ∧ w.cell? ⟨b, o, none⟩ = some (.int .i64 (xs.getD 0 0)) ∧ w.cell? ⟨b, o + 1, none⟩ = some (.int .i64 (xs.getD 1 0)) := by
  obtain ⟨b, o, e, hb, hc⟩ := h.2 (by omega)
  exact ⟨b, o, e, hc 0 (by omega), hc 1 (by omega)⟩
theorem hid_rd {w : World} {A : Option Addr} {n : Nat} {xs : List Int} (h : Hid (Rd w w.heap.size A n xs)) (q : Nat) : Hid (Rd (w.drewN q) (w.drewN q).heap.size A n xs) := hide (h.out.drewN q)
theorem hid_below {B : Nat} {a w : World} (h : Hid (Below B a w)) (q : Nat) : Hid (Below B a (w.drewN q)) := hide (bdrewN h.out q)
theorem pile_card {us : List grid.Sl} {s : grid.Sl} {ds : List Int} {m j t : Nat} (hm : 0 < m) (hc : grid.con us = deal ds m j) (hs : us[t % m]? = some s) (hl : s.xs.length = s.n) (ht : t < j) :
    t / m < s.n ∧ s.xs.getD (s.n - 1 - t / m) 0 = ds.getD t 0 := by
  have h1 := deal_put (xs := ds) hm (i := t) ht
  have h2 := grid.con_at hs
  rw [hc] at h2
  have h3 : (deal ds m j).getD (t % m) [] = s.xs := by simp [List.getD, h2]
  rw [h3, hl] at h1
  exact h1
theorem pile_le {us : List grid.Sl} {s : grid.Sl} {ds : List Int} {m j t n : Nat} (hm : 0 < m) (hc : grid.con us = deal ds m j) (hs : us[t]? = some s) (hl : s.xs.length = s.n) (hd : ds.length = n) (hj : j ≤ n) : s.n ≤ n := by
  have h2 := grid.con_at hs
  rw [hc] at h2
  have h3 := flat_len (List.mem_of_getElem? h2)
  have h4 := (deal_flat (xs := ds) hm j (by omega)).length_eq
  rw [List.length_take] at h4
  omega
theorem perf_ne {xs : List Int} (hd : deckB xs = true) (h2 : 2 ≤ xs.length) : (perf xs false).getD 1 0 ≠ xs.getD 0 0 ∧ (perf xs true).getD 0 0 ≠ xs.getD 0 0 := by
  have h1 : 0 < xs.length / 2 := by omega
  have ha := (pf_at xs false (xs.length / 2) (j := 0) (k := xs.length / 2) h1).2
  have hb := (pf_at xs true (xs.length / 2) (j := 0) (k := xs.length / 2) h1).1
  have hne : xs.getD (xs.length / 2 + 0) 0 ≠ xs.getD 0 0 := fun e => by
    have := ord_inj (deck_ord hd) (by omega) (by omega) e
    omega
  exact ⟨fun e => hne (ha.symm.trans e), fun e => hne (hb.symm.trans e)⟩
theorem adv {R : World → Prop} {x y : World} (S : Hid (∀ W : World, Below x.heap.size x W → R W)) (hb : Below x.heap.size x y) : Hid (∀ W : World, Below y.heap.size y W → R W) :=
  hide fun W h => S.out W (hb.trans (h.mono hb.size))
theorem advG {w x y : World} (G : Hid (Below w.heap.size w x)) (hb : Below x.heap.size x y) : Hid (Below w.heap.size w y) := hide (G.out.trans (hb.mono G.out.size))
theorem own_all {w : World} {B : Nat} {A : Option Addr} {n c : Nat} {xs : List Int} (ho : Own w B A n c xs) : Hid (∀ W : World, Below w.heap.size w W → Rd W W.heap.size A n xs) :=
  hide fun _ hb => (ho.rd.below hb).more hb.size
theorem here {x : World} : Below x.heap.size x x := Below.refl _ _
set_option maxRecDepth 20000 in
theorem fnShuffled_big (A : Option Addr) (n c : Nat) (A2 : Option Addr) (n2 c2 : Nat) (w : World) (h : 48 < n ∨ 48 < n2) (hn : n ≤ 9223372036854775807) (hn2 : n2 ≤ 9223372036854775807) :
    Calls Try.prog 14 #[.slice A n c, .slice A2 n2 c2] w fun e w' => e = .returned (.bool true) ∧ Below w.heap.size w w' := by
  have HL := hide (long_big A n c A2 n2 c2 w h hn hn2)
  have HB := hide (Below.refl w.heap.size w)
  clear h
  go_enter Try.func14, Try.ntmps14
  go_wp2_with (go_at_call 47; refine HL.out.mono ?_; rintro e w' ⟨rfl, rfl⟩)
  go_ret
  exact ⟨rfl, HB.out⟩

set_option maxRecDepth 20000 in
set_option maxHeartbeats 16000000 in
theorem fnShuffled_any (A : Option Addr) (n c : Nat) (zs : List Int) (A2 : Option Addr) (n2 c2 : Nat) (zs2 : List Int) (w : World) (hY : hand.RdY w w.heap.size A n zs) (hn : n ≤ 48) (hY2 : hand.RdY w w.heap.size A2 n2 zs2) (hn2 : n2 ≤ 48) :
    Calls Try.prog 14 #[.slice A n c, .slice A2 n2 c2] w fun e w' => e = .returned (.bool true) ∧ Below w.heap.size w w' := by
  have HL := hide (r8Long_any A A2 n c n2 c2 w hn hn2)
  have HM := hide (fun (W : World) (hb : Below w.heap.size w W) (i m : Nat) (hi : i ≤ 1000) (hm : m ≤ 1000) => r8At_val A2 n2 c2 zs2 w.heap.size i m W (show byts.RdY W w.heap.size A2 n2 zs2 from hY2.below hb) hn2 hi hm)
  have HD := hide (fun (m : Nat) (h1 : 1 ≤ m) (h2 : m ≤ 52) => R8Deck_any A n c zs m w hY (by omega) h1 h2)
  have HDM := hide (fun (m : Nat) (h1 : 1 ≤ m) (h2 : m ≤ 52) (W : World) (hb : Below w.heap.size w W) => R8Deck_any A2 n2 c2 zs2 m W (rdY_more (hY2.below hb) hb.size) (by omega) h1 h2)
  have hr20 := atR_lt zs2 40 (show 0 < 20 by omega)
  have M40 := hide (HM.out w (Below.refl _ _) 40 20 (by omega) (by omega))
  clear hY hY2
  obtain ⟨r20, e20⟩ := ex_eq (atR zs2 40 20)
  rw [e20] at hr20 M40
  clear e20
  go_enter Try.func14, Try.ntmps14
  go_upto_region 4 with (first | (go_at_call 47; refine HL.out.mono ?_; rintro e w' ⟨rfl, rfl⟩) | (go_at_call 48; refine M40.out.mono ?_; rintro e w' ⟨rfl, rfl⟩))
  obtain ⟨N, hN1, hN20, es⟩ : ∃ N : Nat, 1 ≤ N ∧ N ≤ 20 ∧ (1 : Int) + (r20 : Int) = (N : Int) := ⟨1 + r20, by omega, by omega, by omega⟩
  rw [es]
  have HDN := hide (HD.out N hN1 (by omega))
  clear es hr20 HL HD M40
  go_upto_region 5 with (go_at_call 49; refine HDN.out.mono ?_; clear HDN; rintro e w1 ⟨A6, c6, ds, rfl, ho6, hp6, hb1⟩)
  have hdk := deck_perm hp6 (news_deck hN1 (by omega))
  have hdl := ho6.len
  have HDK := hide hdk
  have HDL := hide hdl
  have hc6 : N ≤ c6 := ho6.cap.1
  have R6 := hide (fun W (hb : Below w1.heap.size w1 W) => (ho6.rd.below hb).more hb.size)
  have HB1 := hide hb1
  have HT0 := hide (LstB.new w1 (Nat.le_refl w1.heap.size))
  have HW0 := hide ((Below.refl w1.heap.size w1).alloc (Nat.le_refl _) (.cells #[] 4))
  clear ho6 hp6 hb1 hdk hdl
  go_wp2
  go_loopw [7, 8] (fun v7 i wr => ∃ (k : Nat) (ob : List Bool), k ≤ N ∧ i = .int .i64 k ∧ ob.length = k ∧ LstB wr w1.heap.size v7 ob ∧ Below w1.heap.size w1 wr) (fun _ i _ => N - (intOf i).toNat)
  case atStart => exact ⟨0, [], Nat.zero_le _, rfl, rfl, HT0.out, HW0.out⟩
  case round =>
    obtain ⟨k, ob, hk, rfl, hol, hL, hbw⟩ := hrel
    have hzr := hbw.size
    have HLs := hide hL
    have HBW := hide hbw
    by_cases hlt : k < N
    · have CA := hide (HM.out wr (HB1.out.trans (hbw.mono HB1.out.size)) k 2 (by omega) (by omega))
      obtain ⟨a, ea⟩ := ex_eq (atR zs2 k 2)
      rw [ea] at CA
      obtain ⟨q, hq0⟩ := ex_eq ((a : Int) == 1)
      have HQ := hide hq0
      clear hq0 ea hL hbw
      cases q
      · have hq : ((a : Int) == 1) = false := HQ.out
        go_wp2_with (first | (go_at_call 48; refine CA.out.mono ?_; clear CA; rintro e w' ⟨rfl, rfl⟩) | (at_builtin; refine wpList_appB rfl (.tmp 73) (.tmp 78) rfl w1.heap.size _ ob [false] rfl (HLs.out.alloc _) (some ⟨wr.heap.size, 0, none⟩) 1 1 rfl (rdB_one wr false 4) (fun h => by cases h) (by rw [hol]; omega) (by simp; omega) ?_; intro v6 w6 ho6 hg6 hk6))
        have HO6 := hide ho6
        have HB6 := hide ((HBW.out.alloc hzr (.cells #[.bool false] 4)).trans (grown_below hg6 (by simp; omega) (fun k hk => ((HLs.out.alloc (.cells #[.bool false] 4)).blk k hk).1)))
        clear ho6 hg6 hk6 hq
        (try go_wp2)
        go_roundw
        case rel => exact ⟨k + 1, ob ++ [false], by omega, by go_num, by simp [hol], HO6.out, HB6.out⟩
        case measure => simp [intOf]; omega
      · have hq : ((a : Int) == 1) = true := HQ.out
        go_wp2_with (first | (go_at_call 48; refine CA.out.mono ?_; clear CA; rintro e w' ⟨rfl, rfl⟩) | (at_builtin; refine wpList_appB rfl (.tmp 73) (.tmp 78) rfl w1.heap.size _ ob [true] rfl (HLs.out.alloc _) (some ⟨wr.heap.size, 0, none⟩) 1 1 rfl (rdB_one wr true 4) (fun h => by cases h) (by rw [hol]; omega) (by simp; omega) ?_; intro v6 w6 ho6 hg6 hk6))
        have HO6 := hide ho6
        have HB6 := hide ((HBW.out.alloc hzr (.cells #[.bool true] 4)).trans (grown_below hg6 (by simp; omega) (fun k hk => ((HLs.out.alloc (.cells #[.bool true] 4)).blk k hk).1)))
        clear ho6 hg6 hk6 hq
        (try go_wp2)
        go_roundw
        case rel => exact ⟨k + 1, ob ++ [true], by omega, by go_num, by simp [hol], HO6.out, HB6.out⟩
        case measure => simp [intOf]; omega
    · obtain rfl : k = N := by omega
      obtain ⟨A7, c7, rfl, ho7⟩ := hL.formB hol
      have hc7 : k ≤ c7 := ownB_cap ho7
      have hoy : ob.length = ds.length := by rw [hol, HDL.out]
      have HP := hide (fun W (hb : Below wr.heap.size wr W) => (HB1.out.trans (hbw.mono HB1.out.size)).trans (hb.mono (HB1.out.trans (hbw.mono HB1.out.size)).size))
      have S6 := hide (fun W (hb : Below wr.heap.size wr W) => R6.out W (hbw.trans (hb.mono hbw.size)))
      have S7 := hide (fun W (hb : Below wr.heap.size wr W) => (ho7.rd.below hb).more hb.size)
      have G := hide (Below.refl wr.heap.size wr)
      have HPR := hide (rifOut_perm HDK.out hoy)
      have HYL := hide hoy
      have hm41 := atR_lt zs2 41 (show 0 < k + 1 by omega)
      have M41 := hide (fun W hb => by
        have h := HM.out W hb 41 (k + 1) (by omega) (by omega)
        rw [show ((k + 1 : Nat) : Int) = (k : Int) + 1 by omega] at h
        exact h)
      obtain ⟨K, eK⟩ := ex_eq (atR zs2 41 (k + 1))
      rw [eK] at hm41 M41
      have HOL := hide hol
      clear eK hL hbw ho7 hoy HBW HLs HT0 HW0 R6
      have C1 := hide (w_rif (xs := ds) (ys := ob) HDK.out (by omega) (S6.out _ here) hc6 (S7.out _ here) hc7)
      go_upto_region 11 with (go_at_call 27; refine C1.out.mono ?_; clear C1; rintro e x1 ⟨A9, c9, rfl, ho, hb⟩)
      replace G := advG G hb
      replace S6 := adv S6 hb
      replace S7 := adv S7 hb
      have S9 := own_all ho
      have hc9 := ho.cap.1
      clear ho hb
      have C2 := hide (w_unr (xs := ds) (ys := ob) HDK.out (by omega) HYL.out (S9.out _ here) hc9 (S7.out _ here) hc7)
      go_upto_region 12 with (go_at_call 18; refine C2.out.mono ?_; clear C2; rintro e x2 ⟨A11, c11, rfl, ho, hb⟩)
      replace G := advG G hb
      replace S6 := adv S6 hb
      replace S7 := adv S7 hb
      replace S9 := adv S9 hb
      have S11 := own_all ho
      have hc11 := ho.cap.1
      clear ho hb
      have M41' := hide (M41.out _ (HP.out _ G.out))
      go_upto_region 13 with (go_at_call 48; refine M41'.out.mono ?_; clear M41'; rintro e w' ⟨rfl, rfl⟩)
      have C3 := hide (w_cut (xs := ds) (k := K) HDK.out (by omega) (by omega) (S6.out _ here) hc6)
      go_upto_region 14 with (go_at_call 61; refine C3.out.mono ?_; clear C3; rintro e x3 ⟨A14, c14, rfl, ho, hb⟩)
      replace G := advG G hb
      replace S6 := adv S6 hb
      replace S7 := adv S7 hb
      replace S9 := adv S9 hb
      replace S11 := adv S11 hb
      have S14 := own_all ho
      have hc14 := ho.cap.1
      clear ho hb
      have C4 := hide (w_uncut (xs := ds) (k := K) HDK.out (by omega) (by omega) HDL.out (S14.out _ here) hc14)
      go_upto_region 15 with (go_at_call 61; refine C4.out.mono ?_; clear C4; rintro e x4 ⟨A16, c16, rfl, ho, hb⟩)
      replace G := advG G hb
      replace S6 := adv S6 hb
      replace S7 := adv S7 hb
      replace S9 := adv S9 hb
      replace S11 := adv S11 hb
      replace S14 := adv S14 hb
      have S16 := own_all ho
      have hc16 := ho.cap.1
      clear ho hb
      have C5 := hide (w_turn (xs := ds) HDK.out (by omega) (S6.out _ here) hc6)
      go_upto_region 16 with (go_at_call 62; refine C5.out.mono ?_; clear C5; rintro e x5 ⟨A18, c18, rfl, ho, hb⟩)
      replace G := advG G hb
      replace S6 := adv S6 hb
      replace S7 := adv S7 hb
      replace S9 := adv S9 hb
      replace S11 := adv S11 hb
      replace S14 := adv S14 hb
      replace S16 := adv S16 hb
      have S18 := own_all ho
      have hc18 := ho.cap.1
      clear ho hb
      have HDR := hide (deck_perm (List.reverse_perm ds) HDK.out)
      have C6 := hide (w_turn (xs := ds.reverse) HDR.out (by omega) (S18.out _ here) hc18)
      go_upto_region 17 with (go_at_call 62; refine C6.out.mono ?_; clear C6; rintro e x6 ⟨A20, c20, rfl, ho, hb⟩)
      replace G := advG G hb
      replace S6 := adv S6 hb
      replace S7 := adv S7 hb
      replace S9 := adv S9 hb
      replace S11 := adv S11 hb
      replace S14 := adv S14 hb
      replace S16 := adv S16 hb
      replace S18 := adv S18 hb
      have S20 := own_all ho
      have hc20 := ho.cap.1
      clear ho hb
      have C7 := hide (w_monge (xs := ds) HDK.out (by omega) (S6.out _ here) hc6)
      go_upto_region 18 with (go_at_call 29; refine C7.out.mono ?_; clear C7; rintro e x7 ⟨A22, c22, rfl, ho, hb⟩)
      replace G := advG G hb
      replace S6 := adv S6 hb
      replace S7 := adv S7 hb
      replace S9 := adv S9 hb
      replace S11 := adv S11 hb
      replace S14 := adv S14 hb
      replace S16 := adv S16 hb
      replace S18 := adv S18 hb
      replace S20 := adv S20 hb
      have S22 := own_all ho
      have hc22 := ho.cap.1
      clear ho hb
      have HT24 := hide (show Lst (x7.alloc (.cells #[] 2)) x7.heap.size (.slice (some ⟨x7.heap.size, 0, none⟩) 0 0) (List.replicate 0 1) from Lst.new x7 (Nat.le_refl _))
      have HW24 := hide ((Below.refl x7.heap.size x7).alloc (Nat.le_refl _) (.cells #[] 2))
      go_wp2
      go_loopw [24, 25] (fun v24 i wy => ∃ j : Nat, j ≤ k ∧ i = .int .i64 j ∧ Lst wy x7.heap.size v24 (List.replicate j 1) ∧ Below x7.heap.size x7 wy) (fun _ i _ => k - (intOf i).toNat)
      case atStart => exact ⟨0, Nat.zero_le _, rfl, HT24.out, HW24.out⟩
      case round =>
        obtain ⟨j, hj, rfl, hL, hbw⟩ := hrel
        have hzy := hbw.size
        by_cases hlt2 : j < k
        · have HLj := hide hL
          have HBj := hide hbw
          have hrep : List.replicate j (1 : Int) ++ [1] = List.replicate (j + 1) 1 := by rw [List.replicate_succ']
          have HREP := hide hrep
          clear hL hbw hrep
          go_wp2_with (at_builtin; refine wpList_app rfl (.tmp 131) (.tmp 132) rfl x7.heap.size _ (List.replicate j 1) [1] rfl (HLj.out.alloc _) (some ⟨wr.heap.size, 0, none⟩) 1 1 rfl (rd_one wr 1 2) (fun h => by cases h) (by rw [List.length_replicate]; omega) (by simp; omega) ?_; intro v6 w6 ho6 hg6 hk6)
          have HO6 := hide (show Lst w6 x7.heap.size v6 (List.replicate (j + 1) 1) by rw [← HREP.out]; exact ho6)
          have HB6 := hide ((HBj.out.alloc hzy (.cells #[.int .i64 1] 2)).trans (Lst.grown (HLj.out.alloc _) hg6 (by simp; omega)))
          clear ho6 hg6 hk6
          (try go_wp2)
          go_roundw
          case rel => exact ⟨j + 1, by omega, by go_num, HO6.out, HB6.out⟩
          case measure => simp [intOf]; omega
        · obtain rfl : j = k := by omega
          obtain ⟨A24, c24, rfl, ho24⟩ := hL.formn (show (List.replicate j (1 : Int)).length = j by rw [List.length_replicate])
          have hc24 := ho24.cap.1
          replace G := advG G hbw
          replace S6 := adv S6 hbw
          replace S7 := adv S7 hbw
          replace S9 := adv S9 hbw
          replace S11 := adv S11 hbw
          replace S14 := adv S14 hbw
          replace S16 := adv S16 hbw
          replace S18 := adv S18 hbw
          replace S20 := adv S20 hbw
          replace S22 := adv S22 hbw
          have S24 := own_all ho24
          clear hL hbw ho24 HT24 HW24 hzy
          have C9 := hide (w_ones (xs := ds) HDK.out (by omega) (S6.out _ here) hc6 (S24.out _ here) hc24)
          go_upto_region 24 with (go_at_call 25; refine C9.out.mono ?_; clear C9; rintro e x9 ⟨A26, c26, rfl, ho, hb⟩)
          replace G := advG G hb
          replace S6 := adv S6 hb
          replace S7 := adv S7 hb
          replace S9 := adv S9 hb
          replace S11 := adv S11 hb
          replace S14 := adv S14 hb
          replace S16 := adv S16 hb
          replace S18 := adv S18 hb
          replace S20 := adv S20 hb
          replace S22 := adv S22 hb
          replace S24 := adv S24 hb
          have S26 := own_all ho
          have hc26 := ho.cap.1
          clear ho hb
          have HBa := hide ((Below.refl x9.heap.size x9).alloc (Nat.le_refl _) (.cells #[.int .i64 (j : Int)] 2))
          have C10 := hide (w_whole (xs := ds) HDK.out (by omega) (S6.out _ HBa.out) hc6 (rd_one x9 (j : Int) 2) (Nat.le_refl 1))
          go_upto_region 25 with (go_at_call 25; refine C10.out.mono ?_; clear C10; rintro e x10 ⟨A28, c28, rfl, ho, hb⟩)
          have hb := HBa.out.trans (hb.mono HBa.out.size)
          replace G := advG G hb
          replace S6 := adv S6 hb
          replace S7 := adv S7 hb
          replace S9 := adv S9 hb
          replace S11 := adv S11 hb
          replace S14 := adv S14 hb
          replace S16 := adv S16 hb
          replace S18 := adv S18 hb
          replace S20 := adv S20 hb
          replace S22 := adv S22 hb
          replace S24 := adv S24 hb
          replace S26 := adv S26 hb
          have S28 := own_all ho
          have hc28 := ho.cap.1
          clear ho hb HBa
          have C11 := hide (NewDeck_any j x10 (by omega) (by omega))
          go_upto_region 26 with (go_at_call 63; refine C11.out.mono ?_; clear C11; rintro e x11 ⟨A30, c30, rfl, ho, hb⟩)
          replace G := advG G hb
          replace S6 := adv S6 hb
          replace S7 := adv S7 hb
          replace S9 := adv S9 hb
          replace S11 := adv S11 hb
          replace S14 := adv S14 hb
          replace S16 := adv S16 hb
          replace S18 := adv S18 hb
          replace S20 := adv S20 hb
          replace S22 := adv S22 hb
          replace S24 := adv S24 hb
          replace S26 := adv S26 hb
          replace S28 := adv S28 hb
          have S30 := own_all ho
          have hc30 := ho.cap.1
          clear ho hb
          have C12 := hide (w_rif (xs := news j) (ys := ob) (news_deck (by omega) (by omega)) (by omega) (S30.out _ here) hc30 (S7.out _ here) hc7)
          go_upto_region 27 with (go_at_call 27; refine C12.out.mono ?_; clear C12; rintro e x12 ⟨A32, c32, rfl, ho, hb⟩)
          replace G := advG G hb
          replace S6 := adv S6 hb
          replace S7 := adv S7 hb
          replace S9 := adv S9 hb
          replace S11 := adv S11 hb
          replace S14 := adv S14 hb
          replace S16 := adv S16 hb
          replace S18 := adv S18 hb
          replace S20 := adv S20 hb
          replace S22 := adv S22 hb
          replace S24 := adv S24 hb
          replace S26 := adv S26 hb
          replace S28 := adv S28 hb
          replace S30 := adv S30 hb
          have S32 := own_all ho
          have hc32 := ho.cap.1
          clear ho hb
          replace HP := hide (fun W (hb : Below x12.heap.size x12 W) => HP.out W (G.out.trans (hb.mono G.out.size)))
          have G12 := hide (Below.refl x12.heap.size x12)
          clear G
          have hj52 : j ≤ 52 := Nat.le_trans hN20 (by decide)
          have HT := hide (rev_top HDL.out hN1)
          obtain ⟨b18, o18, rfl, hb18, hc18a, _⟩ := at_top (S18.out x12 here) hN1
          obtain ⟨b6, o6, rfl, hb6, _, hc6a⟩ := at_top (S6.out x12 here) hN1
          rw [HT.out] at hc18a
          obtain ⟨top, htop⟩ := ex_eq (ds.getD (j - 1) 0)
          rw [htop] at hc18a hc6a
          have CT1 := hide (fun W (hb : Below x12.heap.size x12 W) => below_cell hb hb18 hc18a)
          have CT2 := hide (fun W (hb : Below x12.heap.size x12 W) => below_cell hb hb6 hc6a)
          clear hc18a hc6a htop
          have hq1 : ((j : Int) - 1).toNat = j - 1 := by omega
          have CR := hide (w_runs (ys := ob) hN1 hj52 HOL.out (S32.out x12 here) hc32)
          have CD1 := hide (fun W (hb : Below x12.heap.size x12 W) => w_deck (c := c9) (xs := rifOut ds ob) (deck_perm HPR.out HDK.out) hj52 (S9.out W hb))
          have CD2 := hide (fun W (hb : Below x12.heap.size x12 W) => w_deck (c := c22) (xs := monOut ds) (deck_perm (monOut_perm HDK.out) HDK.out) hj52 (S22.out W hb))
          have D6 := S6
          have CS1 := hide (fun W (hb : Below x12.heap.size x12 W) => r8Same_eq0 (c := c11) (c2 := c6) (S11.out W hb) (D6.out W hb) hj52)
          have CS2 := hide (fun W (hb : Below x12.heap.size x12 W) (q : Nat) => r8Same_eq (c := c16) (c2 := c6) q (S16.out W hb) (D6.out W hb) hj52)
          have CS3 := hide (fun W (hb : Below x12.heap.size x12 W) (q : Nat) => by
            have h := r8Same_eq (c := c20) (c2 := c6) q (S20.out W hb) (by rw [List.reverse_reverse]; exact D6.out W hb) hj52
            exact h)
          have CS4 := hide (fun W (hb : Below x12.heap.size x12 W) (q : Nat) => r8Same_eq (c := c26) (c2 := c18) q (S26.out W hb) (S18.out W hb) hj52)
          have CS5 := hide (fun W (hb : Below x12.heap.size x12 W) (q : Nat) => r8Same_eq (c := c28) (c2 := c6) q (S28.out W hb) (D6.out W hb) hj52)
          clear D6 S7 S9 S11 S14 S16 S18 S20 S22 S24 S26 S28 S30 S32
          go_upto_region 28 with (go_at_call 56; refine CR.out.mono ?_; clear CR; rintro e x13 ⟨rr, rfl, hrr, hb13⟩; have H13 := hide hb13; clear hb13)
          refine seqt.seq_start (by as_aux_lemma => kernel_rfl) ?_
          refine seqt.seq_phase 0 58 [57] (by intro c d v a w h; cases d <;> exact h) (by as_aux_lemma => kernel_rfl) (by as_aux_lemma => kernel_rfl) (by as_aux_lemma => kernel_rfl) ?_
          simp only [List.append_eq, Nat.reduceSub,  List.cons_append, List.nil_append, List.take_succ_cons, List.take_zero, List.drop_zero]
          go_wp2_with (first | (go_at_call_of 52 A9; refine (CD1.out _ (bdrewN H13.out 1)).mono ?_; rintro e x14 ⟨rfl, hb14⟩; have H14 := hide ((bdrewN H13.out 1).trans (hb14.mono H13.out.size)); clear hb14) | (go_at_call_of 52 A22; refine (CD2.out _ H14.out).mono ?_; rintro e x15 ⟨rfl, hb15⟩; have H15 := hide (H14.out.trans (hb15.mono H14.out.size)); clear hb15))
          show wpAny _ _ _ _ _ _ _ _
          refine seqt.seq_swap 58 (by intro c d v a w h; cases d <;> exact h) (by as_aux_lemma => kernel_rfl) (by as_aux_lemma => kernel_rfl) ?_
          simp only [List.cons_append, List.nil_append, List.take_succ_cons, List.take_zero, List.drop_succ_cons, List.drop_zero]
          go_wp2_with fail
          show wpAny _ _ _ _ _ _ _ _
          refine seqt.seq_phase 60 97 [63, 69, 75, 81, 87] (by intro c d v a w h; cases d <;> exact h) (by as_aux_lemma => kernel_rfl) (by as_aux_lemma => kernel_rfl) (by as_aux_lemma => kernel_rfl) ?_
          simp only [Nat.reduceSub, List.take_succ_cons, List.take_zero, List.drop_succ_cons, List.drop_zero]
          go_wp2_with (first | (go_at_call_of 57 A11; refine (CS1.out _ H15.out).mono ?_; rintro e w' ⟨rfl, q1, rfl⟩) | (go_at_call_of 57 A16; refine (CS2.out _ H15.out _).mono ?_; rintro e w' ⟨rfl, q2, rfl⟩) | (go_at_call_of 57 A20; refine (CS3.out _ H15.out _).mono ?_; rintro e w' ⟨rfl, q3, rfl⟩) | (go_at_call_of 57 A26; refine (CS4.out _ H15.out _).mono ?_; rintro e w' ⟨rfl, q4, rfl⟩) | (go_at_call_of 57 A28; refine (CS5.out _ H15.out _).mono ?_; rintro e w' ⟨rfl, q5, rfl⟩; have ht1 := CT1.out (x15.drewN q5) (bdrewN H15.out q5); have ht2 := CT2.out (x15.drewN q5) (bdrewN H15.out q5)))
          show wpAny _ _ _ _ _ _ _ _
          refine seqt.seq_tail 97 (by as_aux_lemma => kernel_rfl) (by as_aux_lemma => kernel_rfl) ?_
          simp only [List.drop_succ_cons, List.drop_zero]
          have hj0 : 0 < j := hN1
          have hjw : IntKind.i64.wrap ((j : Int) - 1) = (j : Int) - 1 := IntWalk.i64_in _ ⟨by omega, by omega⟩
          have hj1 : (0 : Int) ≤ (j : Int) - 1 := by omega
          have hj2 : (j : Int) - 1 < (j : Int) := by omega
          have hj3 : (1 : Int) ≤ (j : Int) := by omega
          repeat still_step
          refine wpStill_nil ?_
          clear ht1 ht2 CT1 CT2 hjw hj1 hj2 hj3 hq1
          have G15 := hide (bdrewN (G12.out.trans (H15.out.mono G12.out.size)) q5)
          clear H13 H14 H15
          have hm42 := atR_lt zs2 42 (show 0 < 2 by omega)
          have hm43 := atR_lt zs2 43 (show 0 < 12 by omega)
          have M42 := hide (HM.out _ (HP.out _ G15.out) 42 2 (by decide) (by decide))
          have M43 := hide (HM.out _ (HP.out _ G15.out) 43 12 (by decide) (by decide))
          obtain ⟨a42, e42⟩ := ex_eq (atR zs2 42 2)
          obtain ⟨a43, e43⟩ := ex_eq (atR zs2 43 12)
          rw [e42] at M42
          rw [e43] at M43 hm43
          obtain ⟨bi, hbi⟩ := ex_eq ((a42 : Int) == 1)
          obtain ⟨E, hE⟩ : ∃ E : Nat, E = 2 * (1 + a43) := ⟨_, rfl⟩
          have EE := hide (show (2 : Int) * (1 + (a43 : Int)) = (E : Int) by omega)
          have hE1 : 1 ≤ E := by omega
          have hE24 : E ≤ 24 := by omega
          have hE2 : E % 2 = 0 := by omega
          obtain ⟨kk, hk1, hkE, hkb, hkn, hkc⟩ := w_order (b := bi) hm43
          rw [← hE] at hkE hkb hkn hkc
          have HKB := hide hkb
          have HKN := hide hkn
          have C34 := hide hkc
          clear hE hkb hkn hkc
          have C32 := hide (HDM.out E hE1 (Nat.le_trans hE24 (by decide)) _ (HP.out _ G15.out))
          clear e42 e43 hm42
          go_upto_region 31 with (go_at_call 48; refine M42.out.mono ?_; clear M42; rintro e w' ⟨rfl, rfl⟩)
          try rw [hbi]
          go_upto_region 32 with (go_at_call 48; refine M43.out.mono ?_; clear M43; rintro e w' ⟨rfl, rfl⟩)
          rw [EE.out]
          go_upto_region 34 with (go_at_call 49; refine C32.out.mono ?_; clear C32; rintro e y1 ⟨A38, c38, es, rfl, ho, hpe, hb⟩)
          have HED := hide (deck_perm hpe (news_deck hE1 (Nat.le_trans hE24 (by decide))))
          have HEL := hide ho.len
          have G16 := hide (G15.out.trans (hb.mono G15.out.size))
          have S38 := hide (fun W (hb : Below y1.heap.size y1 W) => (ho.rd.below hb).more hb.size)
          have hc38 := ho.cap.1
          clear ho hb hpe
          go_upto_region 37 with (go_at_call 64; refine (C34.out _).mono ?_; clear C34; rintro e y2 ⟨rfl, hb⟩)
          have J38_y2 := hide hb
          have G17 := hide (G16.out.trans (hb.mono G16.out.size))
          have T0 := hide (show Rd y2 y2.heap.size A38 E (pfI es bi 0) from S38.out y2 hb)
          have T1 := hide (Below.refl y2.heap.size y2)
          clear hb
          go_wp2
          have HPF := hide (pf_steps HED.out HEL.out hE2 HKB.out HKN.out)
          clear HKB HKN
          have hkEd : decide (E < kk) = false := decide_eq_false (Nat.not_lt.2 hkE)
          simp only [hkEd, Bool.or_false]
          clear hkEd
          go_loopw [39, 42] (fun v39 i wz => ∃ (k : Nat) (A : Option Addr) (c : Nat), k ≤ kk ∧ i = .int .i64 k ∧ v39 = .slice A E c ∧ E ≤ c ∧ Hid (Rd wz wz.heap.size A E (pfI es bi k)) ∧ Hid (Below y2.heap.size y2 wz)) (fun _ i _ => kk - (intOf i).toNat)
          case atStart => exact ⟨0, A38, c38, Nat.zero_le _, rfl, rfl, hc38, T0, T1⟩
          case round =>
            obtain ⟨k, Aw, cw, hk, rfl, rfl, hcw, HR, HB⟩ := hrel
            by_cases hlt : k < kk
            · have HS := hide (S38.out wr (J38_y2.out.trans (HB.out.mono J38_y2.out.size)))
              have HC := hide (fun (q : Nat) => w_perf (b := bi) (c := cw) (HPF.out.2.2 k) (Nat.le_trans hE24 (by decide)) hE2 (HR.out.drewN q) hcw)
              have hkz : (0 : Int) ≤ (k : Int) := by omega
              have HC0 := hide (w_perf (b := bi) (c := cw) (HPF.out.2.2 k) (Nat.le_trans hE24 (by decide)) hE2 HR.out hcw)
              have hlc : 2 ≤ (pfI es bi k).length := by rw [HR.out.len]; omega
              have hE22 : 2 ≤ E := by omega
              by_cases hk0 : 0 < k
              · as_aux_lemma =>
                  have hd0 : (0 : Int) < (k : Int) := by omega
                  have HN := hide (fun (q : Nat) => r8Same_no (c := cw) (c2 := c38) HR.out HS.out (Nat.le_trans hE24 (by decide)) (HPF.out.2.1 k hk0 hlt) q)
                  go_upto_region 42 with (go_at_call 57; refine (HN.out 0).mono ?_; rintro e w' ⟨rfl, q9, rfl⟩)
                  go_upto_region 43 with (go_at_call 65; refine (HC.out q9).mono ?_; clear HC HC0; rintro e w3 ⟨A43, c43, rfl, ho3, hb3⟩)
                  have HO := hide ho3
                  have HB3 := hide ((bdrewN HB.out q9).trans (hb3.mono HB.out.size))
                  have HR3 := hide (show Rd w3 w3.heap.size A43 E (pfI es bi (k + 1)) from ho3.rd)
                  have hc43 := ho3.cap.1
                  obtain ⟨b43, o43, rfl, cn0, cn1⟩ := two_cells ho3.rd hE22
                  obtain ⟨bw, ow, rfl, cw0, _⟩ := two_cells ((HR.out.drewN q9).below hb3) hE22
                  clear ho3 hb3
                  cases bi
                  · rw [(perf_head hlc).1] at cn0
                    obtain ⟨v, hv⟩ := ex_eq ((pfI es false k).getD 0 0)
                    obtain ⟨u, hu⟩ := ex_eq ((perf (pfI es false k) false).getD 1 0)
                    rw [hv] at cn0 cw0
                    rw [hu] at cn1
                    have huv : (u != v) = true := by rw [bne_iff_ne, ← hu, ← hv]; exact (perf_ne (HPF.out.2.2 k) hlc).1
                    clear hv hu hlc
                    have hne0 : (v != v) = false := by simp
                    go_quiet (fail)
                    go_wp2
                    go_roundw
                    case rel => exact ⟨k + 1, some ⟨b43, o43, none⟩, c43, Nat.succ_le_of_lt hlt, by go_num, rfl, hc43, hid_rd HR3 _, hid_below HB3 _⟩
                    case measure => simp [intOf]; omega
                  · rw [(perf_head hlc).2] at cn1
                    obtain ⟨v, hv⟩ := ex_eq ((pfI es true k).getD 0 0)
                    obtain ⟨u, hu⟩ := ex_eq ((perf (pfI es true k) true).getD 0 0)
                    rw [hv] at cn1 cw0
                    rw [hu] at cn0
                    have huv : (u != v) = true := by rw [bne_iff_ne, ← hu, ← hv]; exact (perf_ne (HPF.out.2.2 k) hlc).2
                    clear hv hu hlc
                    have hne0 : (v != v) = false := by simp
                    go_quiet (fail)
                    go_wp2
                    go_roundw
                    case rel => exact ⟨k + 1, some ⟨b43, o43, none⟩, c43, Nat.succ_le_of_lt hlt, by go_num, rfl, hc43, hid_rd HR3 _, hid_below HB3 _⟩
                    case measure => simp [intOf]; omega
              · as_aux_lemma =>
                  have hd0 : ¬ (0 : Int) < (k : Int) := by omega
                  go_upto_region 42 with fail
                  go_upto_region 43 with (go_at_call 65; refine (HC0.out).mono ?_; clear HC HC0; rintro e w3 ⟨A43, c43, rfl, ho3, hb3⟩)
                  have HO := hide ho3
                  have HB3 := hide (HB.out.trans (hb3.mono HB.out.size))
                  have HR3 := hide (show Rd w3 w3.heap.size A43 E (pfI es bi (k + 1)) from ho3.rd)
                  have hc43 := ho3.cap.1
                  obtain ⟨b43, o43, rfl, cn0, cn1⟩ := two_cells ho3.rd hE22
                  obtain ⟨bw, ow, rfl, cw0, _⟩ := two_cells (HR.out.below hb3) hE22
                  clear ho3 hb3
                  cases bi
                  · rw [(perf_head hlc).1] at cn0
                    obtain ⟨v, hv⟩ := ex_eq ((pfI es false k).getD 0 0)
                    obtain ⟨u, hu⟩ := ex_eq ((perf (pfI es false k) false).getD 1 0)
                    rw [hv] at cn0 cw0
                    rw [hu] at cn1
                    have huv : (u != v) = true := by rw [bne_iff_ne, ← hu, ← hv]; exact (perf_ne (HPF.out.2.2 k) hlc).1
                    clear hv hu hlc
                    have hne0 : (v != v) = false := by simp
                    go_quiet (fail)
                    go_wp2
                    go_roundw
                    case rel => exact ⟨k + 1, some ⟨b43, o43, none⟩, c43, Nat.succ_le_of_lt hlt, by go_num, rfl, hc43, hid_rd HR3 _, hid_below HB3 _⟩
                    case measure => simp [intOf]; omega
                  · rw [(perf_head hlc).2] at cn1
                    obtain ⟨v, hv⟩ := ex_eq ((pfI es true k).getD 0 0)
                    obtain ⟨u, hu⟩ := ex_eq ((perf (pfI es true k) true).getD 0 0)
                    rw [hv] at cn1 cw0
                    rw [hu] at cn0
                    have huv : (u != v) = true := by rw [bne_iff_ne, ← hu, ← hv]; exact (perf_ne (HPF.out.2.2 k) hlc).2
                    clear hv hu hlc
                    have hne0 : (v != v) = false := by simp
                    go_quiet (fail)
                    go_wp2
                    go_roundw
                    case rel => exact ⟨k + 1, some ⟨b43, o43, none⟩, c43, Nat.succ_le_of_lt hlt, by go_num, rfl, hc43, hid_rd HR3 _, hid_below HB3 _⟩
                    case measure => simp [intOf]; omega
            · as_aux_lemma =>
                obtain rfl : k = kk := by omega
                have HRk := hide (show Rd wr wr.heap.size Aw E es by rw [← HPF.out.1]; exact HR.out)
                have G18 := hide (G17.out.trans (HB.out.mono G17.out.size))
                have J38_z := hide (J38_y2.out.trans (HB.out.mono J38_y2.out.size))
                have hm44 := atR_lt zs2 44 (show 0 < 8 by omega)
                have M44 := hide (HM.out _ (HP.out _ G18.out) 44 8 (by decide) (by decide))
                obtain ⟨a44, e44⟩ := ex_eq (atR zs2 44 8)
                rw [e44] at M44 hm44
                obtain ⟨M, hM1, hM8, hMe⟩ : ∃ M : Nat, 1 ≤ M ∧ M ≤ 8 ∧ (1 : Int) + (a44 : Int) = (M : Int) := ⟨1 + a44, by omega, by omega, by omega⟩
                have HMe := hide hMe
                have C47 := hide (w_deal (c := c6) HDK.out hj52 hM1 hM8 (S6.out wr G18.out) hc6)
                clear e44 hMe HPF HR HB
                go_upto_region 47 with (go_at_call 48; refine M44.out.mono ?_; clear M44; rintro e w' ⟨rfl, rfl⟩)
                rw [HMe.out]
                clear HMe hm44
                go_upto_region 48 with (go_at_call 31; refine C47.out.mono ?_; clear C47; rintro e z1 ⟨A46, c46, us, rfl, hos, hcu, hb⟩)
                have hz1 := hb.size
                have G19 := hide (G18.out.trans (hb.mono G18.out.size))
                have S46 := hide (fun W (hb : Below z1.heap.size z1 W) => hos.rd.below hb)
                have HCU := hide hcu
                have CS48 := hide (fun (q : Nat) => r8Same_eq (c := cw) (c2 := c38) q (HRk.out.below hb) ((S38.out wr J38_z.out).below hb) (Nat.le_trans hE24 (by decide)))
                have CS48z := hide (r8Same_eq0 (c := cw) (c2 := c38) (HRk.out.below hb) ((S38.out wr J38_z.out).below hb) (Nat.le_trans hE24 (by decide)))
                clear hos hb hcu
                go_upto_region 50 with (go_at_call 57; refine CS48z.out.mono ?_; clear CS48 CS48z; rintro e w' ⟨rfl, q9, rfl⟩)
                obtain ⟨z2, hz2⟩ : ∃ z : World, z1.drewN q9 = z := ⟨_, rfl⟩
                rw [hz2]
                have J46_2 := hide (show Below z1.heap.size z1 z2 by rw [← hz2]; exact bdrewN (Below.refl _ _) q9)
                have G20 := hide (G19.out.trans (J46_2.out.mono G19.out.size))
                clear hz2
                have HT48 := hide (show Lst (z2.alloc (.cells #[] 2)) z2.heap.size (.slice (some ⟨z2.heap.size, 0, none⟩) 0 0) (news 0) from Lst.new z2 (Nat.le_refl _))
                have HW48 := hide ((Below.refl z2.heap.size z2).alloc (Nat.le_refl _) (.cells #[] 2))
                go_wp2
                go_loopw [48, 49] (fun v48 i wy => ∃ t : Nat, t ≤ M ∧ i = .int .i64 t ∧ Lst wy z2.heap.size v48 (news t) ∧ Below z2.heap.size z2 wy) (fun _ i _ => M - (intOf i).toNat)
                case atStart => exact ⟨0, Nat.zero_le _, rfl, HT48.out, HW48.out⟩
                case round =>
                  obtain ⟨t, ht, rfl, hL, hbw⟩ := hrel
                  have hzy := hbw.size
                  by_cases hlt2 : t < M
                  · have HLt := hide hL
                    have HBt := hide hbw
                    have HNX := hide (news_succ t)
                    clear hL hbw
                    go_wp2_with (at_builtin; refine wpList_app rfl (.tmp 379) (.tmp 381) rfl z2.heap.size _ (news t) [(t : Int)] rfl (HLt.out.alloc _) (some ⟨wr.heap.size, 0, none⟩) 1 1 rfl (rd_one wr (t : Int) 2) (fun h => by cases h) (by rw [news_len]; omega) (by simp; omega) ?_; intro v6 w6 ho6 hg6 hk6)
                    have HO6 := hide (show Lst w6 z2.heap.size v6 (news (t + 1)) by rw [HNX.out]; exact ho6)
                    have HB6 := hide ((HBt.out.alloc hzy (.cells #[.int .i64 (t : Int)] 2)).trans (Lst.grown (HLt.out.alloc _) hg6 (by simp; omega)))
                    clear ho6 hg6 hk6
                    (try go_wp2)
                    go_roundw
                    case rel => exact ⟨t + 1, by omega, by go_num, HO6.out, HB6.out⟩
                    case measure => simp [intOf]; omega
                  · obtain rfl : t = M := by omega
                    obtain ⟨A48, c48, rfl, ho48⟩ := hL.formn (news_len t)
                    have hc48 := ho48.cap.1
                    have G21 := hide (G20.out.trans (hbw.mono G20.out.size))
                    have J46_3 := hide (J46_2.out.trans (hbw.mono J46_2.out.size))
                    have C55 := hide (w_gather (c := c46) (c2 := c48) HDK.out HDL.out hM1 hM8 ((S46.out wr J46_3.out).more J46_3.out.size) HCU.out ho48.rd hc48)
                    clear hL hbw ho48 HT48 HW48 hzy
                    go_upto_region 58 with (go_at_call 38; refine C55.out.mono ?_; clear C55; rintro e z3 ⟨A50, c50, rfl, hb⟩)
                    have G22 := hide (G21.out.trans (hb.mono G21.out.size))
                    have J46_4 := hide (J46_3.out.trans (hb.mono J46_3.out.size))
                    have R6z := hide (S6.out z3 G22.out)
                    clear hb
                    obtain ⟨b46, o46, rfl, hbb, hcc⟩ := (S46.out z3 J46_4.out).2.2 (by omega)
                    have HROW := hide (fun (p : Nat) (hp : p < t) => (S46.out z3 J46_4.out).at_ hp)
                    clear hcc
                    go_wp2
                    go_loopw [52] (fun i wz => ∃ (v q : Nat), v ≤ j ∧ i = .int .i64 v ∧ Hid (wz = z3.drewN q)) (fun i _ => j - (intOf i).toNat)
                    case atStart => exact ⟨0, 0, Nat.zero_le _, rfl, rfl⟩
                    case round =>
                      obtain ⟨v, q, hv, rfl, hw⟩ := hrel
                      by_cases hvj : v < j
                      · as_aux_lemma =>
                          obtain ⟨P, hP⟩ := ex_eq (v % t)
                          obtain ⟨D, hD⟩ := ex_eq (v / t)
                          have hPt : P < t := by rw [← hP]; exact Nat.mod_lt _ hM1
                          have hj3 : (v : Int).tmod (t : Int) = (P : Int) := by rw [Int.tmod_eq_emod_of_nonneg (by omega), ← Int.natCast_emod, hP]
                          have hd3 : (v : Int).tdiv (t : Int) = (D : Int) := by rw [Int.tdiv_eq_ediv_of_nonneg (by omega), ← Int.natCast_ediv, hD]
                          have hm0 : ¬ (t : Int) = 0 := by omega
                          have hm00 : ¬ t = 0 := by omega
                          obtain ⟨bb, oo, s, hbo, _, hs, hcs, hok⟩ := HROW.out P hPt
                          obtain ⟨rfl, rfl⟩ : b46 = bb ∧ o46 = oo := by simpa using hbo
                          have hpl := pile_card hM1 HCU.out (by rw [hP]; exact hs) hok.1.len hvj
                          have hple := pile_le hM1 HCU.out hs hok.1.len HDL.out (Nat.le_refl _)
                          rw [hD] at hpl
                          obtain ⟨sA, sn, sc, sxs⟩ := s
                          simp only at hcs hok hpl hple
                          obtain ⟨X, hX⟩ : ∃ X : Nat, (sn : Int) - 1 - (D : Int) = (X : Int) ∧ X = sn - 1 - D ∧ X < sn := ⟨sn - 1 - D, by omega, rfl, by omega⟩
                          have HX := hide hX.1
                          have hXn := hX.2.2
                          obtain ⟨bs, os, rfl, _, hcx⟩ := hok.1.at_ hXn
                          obtain ⟨bd, od, hbd, _, hcd⟩ := R6z.out.at_ hvj
                          obtain ⟨rfl, rfl⟩ : b6 = bd ∧ o6 = od := by simpa using hbd
                          rw [hX.2.1, hpl.2, ← hX.2.1] at hcx
                          obtain ⟨y, hy⟩ := ex_eq (ds.getD v 0)
                          rw [hy] at hcx hcd
                          have hcs : wr.cell? ⟨b46, o46 + P, none⟩ = some (.slice (some ⟨bs, os, none⟩) sn sc) := by rw [hw.out]; exact hcs
                          have hcx : wr.cell? ⟨bs, os + X, none⟩ = some (.int .i64 y) := by rw [hw.out]; exact hcx
                          have hcd : wr.cell? ⟨b6, o6 + v, none⟩ = some (.int .i64 y) := by rw [hw.out]; exact hcd
                          have hDs : D < sn := hpl.1
                          have hne0 : (y != y) = false := by simp
                          have f1 : (0 : Int) ≤ (P : Int) := by omega
                          have f2 : (P : Int) < (t : Int) := by omega
                          clear hP hD hbo hs hok hpl hX hbd hy
                          go_upto_region 62 with fail
                          go_upto_region 63 with fail
                          rw [HX.out]
                          have hXz : ¬ (X : Int) < 0 := by omega
                          clear HX hDs hple hj3 hd3 f1 f2
                          go_quiet (fail)
                          go_wp2
                          go_roundw
                          case rel => exact ⟨v + 1, _, Nat.succ_le_of_lt hvj, by go_num, hide (by rw [hw.out]; exact World.drewN_drewN _ _ _)⟩
                          case measure => simp [intOf]; omega
                      · as_aux_lemma =>
                          obtain rfl : v = j := by omega
                          have G23 := hide (show Below _ _ wr by rw [hw.out]; exact bdrewN G22.out q)
                          have C65 := hide (DownUnder_any v wr hN1 hj52)
                          have hdu := w_down hN1 hN20
                          have HDU := hide hdu
                          clear hdu hw HROW R6z
                          go_upto_region 66 with (go_at_call 66; refine C65.out.mono ?_; clear C65; rintro e w9 ⟨A55, c55, rfl, ho, hb⟩)
                          have G24 := hide (G23.out.trans (hb.mono G23.out.size))
                          have R55 := hide ho.rd
                          clear ho hb
                          have CD := hide (fun (q : Nat) => w_deck (c := c55) HDU.out.1 hj52 (R55.out.drewN q))
                          have CD0 := hide (w_deck (c := c55) HDU.out.1 hj52 R55.out)
                          clear CD
                          obtain ⟨b55, o55, rfl, hb55, hc55⟩ := R55.out.2 hN1
                          have h55 : w9.cell? ⟨b55, o55, none⟩ = some (.int .i64 0) := by
                            have h := hc55 0 hN1
                            rw [HDU.out.2.1] at h
                            exact h
                          have H55 := hide (fun (W : World) (hb : Below w9.heap.size w9 W) (x : Nat) (hx : 2 * x < v) => show W.cell? ⟨b55, o55 + x, none⟩ = some (.int .i64 (2 * (x : Int))) by
                            have h := hc55 x (by omega)
                            rw [HDU.out.2.2 x hx] at h
                            exact below_cell hb hb55 h)
                          clear hc55 HDU
                          have hv0 : 0 < v := hN1
                          go_upto_region 68 with (go_at_call 52; refine CD0.out.mono ?_; clear CD0; rintro e w10 ⟨rfl, hb⟩; have hu0 := below_cell hb hb55 h55)
                          have G25 := hide (G24.out.trans (hb.mono G24.out.size))
                          have H55' := hide (fun (q x : Nat) (hx : 2 * x < v) => H55.out (w10.drewN q) (bdrewN hb q) x hx)
                          clear hb hu0 h55 H55
                          go_wp2
                          go_loopw [57] (fun i wz => ∃ (x q : Nat), 1 ≤ x ∧ x ≤ 60 ∧ i = .int .i64 x ∧ Hid (wz = w10.drewN q)) (fun i _ => v - (intOf i).toNat)
                          case atStart => exact ⟨1, 0, Nat.le_refl _, by decide, rfl, rfl⟩
                          case round =>
                            obtain ⟨x, q, hx1, hx60, rfl, hw⟩ := hrel
                            by_cases hxv : 2 * x < v
                            · have hcx : wr.cell? ⟨b55, o55 + x, none⟩ = some (.int .i64 (2 * (x : Int))) := by rw [hw.out]; exact H55'.out q x hxv
                              have hxx : x < v := by omega
                              go_wp2
                              go_roundw
                              case rel => exact ⟨x + 1, q, by omega, by omega, by go_num, hw⟩
                              case measure => simp [intOf]; omega
                            · go_wp2
                              go_ret
                              exact ⟨rfl, HP.out wr (by rw [hw.out]; exact bdrewN G25.out q)⟩

end Go.Proofs.Ytfncmgaeecjacaa.deck
