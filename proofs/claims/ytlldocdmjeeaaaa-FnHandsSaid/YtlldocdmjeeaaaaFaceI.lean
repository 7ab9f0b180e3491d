/-
  Hands with their suits exchanged, in the implementation. Conditions: those of each theorem.
-/
import Derived.Test.YtlldocdmjeeaaaaFaceA
import Derived.Test.YtlldocdmjeeaaaaSortI
import Derived.Test.YtlldocdmjeeaaaaUnrH
import Derived.Test.YtlldocdmjeeaaaaOuts
import Derived.Test.YtlldocdmjeeaaaaAppS
import Derived.Test.YtlldocdmjeeaaaaBestI
namespace Go.Proofs.Ytlldocdmjeeaaaa.hand
open Go.RowKit
open base mem grid deck

/-! ### the orders of the suits -/
def ordsT (k : Nat) : List (List Int) := (List.range k).map fun (r : Nat) => unOut 4 (r : Int)
def ords24 : List (List Int) := ordsT 24
theorem ordsT_succ (k : Nat) : ordsT (k + 1) = ordsT k ++ [unOut 4 (k : Int)] := by simp [ordsT, List.range_succ]
theorem ords_len : ∀ k : Nat, k < 24 → (unOut 4 (k : Int)).length = 4 := by decide +kernel
theorem ords_fine : ∀ o ∈ ords24, o.length = 4 ∧ ∀ i : Nat, i < 4 → 0 ≤ o.getD i 0 ∧ o.getD i 0 < 4 := by decide +kernel
theorem ords_all : (∀ o ∈ ords24, o ∈ ords256 256) ∧ ∀ o ∈ ords256 256, o ∈ ords24 := by decide +kernel
/-- a list of rows of the call's own -/
structure SO (w0 w : World) (v : Value) (ts : List Sl) : Prop where
  lst : LstS w w0.heap.size v ts
  rows : ∀ t ∈ ts, Own w w0.heap.size t.A t.n t.c t.xs ∧ (t.val.ownBlock = none ∨ t.val.ownBlock ≠ v.ownBlock)
  below : Below w0.heap.size w0 w
theorem SO.new (w : World) : SO w (w.alloc (.cells #[] 22)) (.slice (some ⟨w.heap.size, 0, none⟩) 0 0) [] :=
  ⟨LstS.new w, fun t h => by simp at h, (Below.refl _ _).alloc (Nat.le_refl _) _⟩
theorem SO.below' {w0 w w' : World} {v : Value} {ts : List Sl} (h : SO w0 w v ts) (hb : Below w.heap.size w w') : SO w0 w' v ts :=
  ⟨World.ownsRow.kept (row := none) h.lst ⟨hb.os, hb.tape, hb.output, hb.size, fun k hk _ => hb.block k hk⟩ (by cases v.ownBlock <;> simp), fun t ht => ⟨(h.rows t ht).1.below hb (Nat.le_refl _), (h.rows t ht).2⟩, h.below.trans (hb.mono h.below.size)⟩
theorem SO.rd {w0 w : World} {A : Option Addr} {n c : Nat} {ts : List Sl} (h : SO w0 w (.slice A n c) ts) (hn : ts.length = n) : RdS w w.heap.size A n ts := by
  subst hn
  exact LstS.rd h.lst fun t ht => own_ok (h.rows t ht).1
theorem SO.ok {w0 w : World} {v : Value} {ts : List Sl} (h : SO w0 w v ts) : ∀ t ∈ ts, Sl.ok w w.heap.size t := fun t ht => own_ok (h.rows t ht).1
/-- a row is appended: it came after the list -/
theorem SO.push {w0 w w5 w6 : World} {v v' : Value} {ts : List Sl} {u : Sl} (h : SO w0 w v ts) (hb : Below w.heap.size w w5) (hu : Own w5 w.heap.size u.A u.n u.c u.xs) (o : Obj)
    (hl : LstS w6 w0.heap.size v' (ts ++ [u])) (hg : (w5.alloc o).grownBy w6 v.ownBlock) (hk : v'.ownBlock = v.ownBlock ∨ v'.ownBlock = some (w5.alloc o).heap.size) : SO w0 w6 v' (ts ++ [u]) := by
  have h5 := h.below' hb
  have hz : (w5.alloc o).heap.size = w5.heap.size + 1 := by simp
  have key : ∀ t : Sl, Own w5 w0.heap.size t.A t.n t.c t.xs → (t.val.ownBlock = none ∨ t.val.ownBlock ≠ v.ownBlock) → Own w6 w0.heap.size t.A t.n t.c t.xs ∧ (t.val.ownBlock = none ∨ t.val.ownBlock ≠ v'.ownBlock) := by
    intro t ht hn
    refine ⟨World.ownsRow.kept (World.ownsRow.alloc ht o) hg hn, ?_⟩
    rcases hk with e | e
    · rw [e]; exact hn
    · rw [e]
      cases hb2 : t.val.ownBlock with
      | none => exact .inl rfl
      | some k =>
        refine .inr fun e2 => ?_
        have h1 := (World.ownsRow.lt ht k hb2).2
        have := Option.some.inj e2
        omega
  refine ⟨hl, ?_, ?_⟩
  · intro t ht
    rcases List.mem_append.1 ht with ht | ht
    · exact key t (h5.rows t ht).1 (h5.rows t ht).2
    · simp at ht
      subst ht
      refine key t (hu.mono h.below.size) ?_
      cases hb2 : t.val.ownBlock with
      | none => exact .inl rfl
      | some k =>
        refine .inr fun e2 => ?_
        have h1 := (World.ownsRow.lt hu k hb2).1
        have h2 := (LstS.blk h.lst k e2.symm).2
        omega
  · have h6 : Below w0.heap.size w0 (w5.alloc o) := h5.below.alloc h5.below.size o
    exact h6.grown hg h6.size (fun k hk => (LstS.blk h5.lst k hk).1)

set_option maxRecDepth 20000 in
set_option maxHeartbeats 4000000 in
theorem suitOrders_any (w : World) :
    Calls Try.prog 69 #[] w fun e w' => ∃ A' c' ts, e = .returned (.slice A' 24 c') ∧ SO w w' (.slice A' 24 c') ts ∧ con ts = ords24 := by
  have HN := hide (SO.new w)
  go_enter Try.func69, Try.ntmps69
  go_wp2
  go_loopw [1, 6] (fun v ix wr => ∃ (k : Nat) (ts : List Sl), k ≤ 24 ∧ ix = .int .i64 k ∧ SO w wr v ts ∧ Hid (con ts = ordsT k) ∧ ts.length = k) (fun _ ix _ => 24 - (intOf ix).toNat)
  case atStart => exact ⟨0, [], Nat.zero_le _, rfl, HN.out, rfl, rfl⟩
  case round =>
    obtain ⟨k, ts, hk, rfl, hS, hC, hL⟩ := hrel
    by_cases hlt : k < 24
    · have HD := hide (impl_DeckOfRank 4 (k : Int) wr)
      rw [ords_len k hlt] at HD
      have hsu := ordsT_succ k
      obtain ⟨X, hX⟩ := ex_eq (unOut 4 (k : Int))
      rw [hX] at HD hsu
      have HSU := hide hsu
      have HX4 := hide (show X.length = 4 by rw [← hX]; exact ords_len k hlt)
      have HS := hide hS
      have hz := hS.below.size
      clear hS hsu hX
      go_upto_region 6 with (go_at_call 101; refine HD.out.mono ?_; rintro e w5 ⟨A5, c5, rfl, ho5, hb5⟩)
      have hS5 := HS.out.below' hb5
      have HS5 := hide hS5
      have HO5 := hide ho5
      have HB5 := hide hb5
      have hz5 := hb5.size
      clear hS5 ho5 hb5
      go_wp2_with (at_builtin; refine wpList_appS rfl (.tmp 14) (.tmp 16) rfl w.heap.size _ ts [⟨A5, 4, c5, X⟩] rfl (show LstS (w5.alloc (.cells #[.slice A5 4 c5] 22)) w.heap.size _ ts from World.ownsRow.alloc HS5.out.lst _) (some ⟨w5.heap.size, 0, none⟩) 1 1 rfl (rdS_one w5 A5 4 c5 X HO5.out.rd HO5.out.cap.1 HO5.out.nilc) (fun h => by cases h) (by rw [hL]; omega) (by simp; omega) ?_; intro v6 w6 ho6 hg6 hbk6; have hS6 := HS.out.push HB5.out (u := ⟨A5, 4, c5, X⟩) HO5.out _ ho6 hg6 hbk6)
      have HS6 := hide hS6
      have HC6 := hide (show con (ts ++ [⟨A5, 4, c5, X⟩]) = ordsT (k + 1) by rw [con_app, hC.out, HSU.out]; rfl)
      clear ho6 hg6 hbk6 hS6
      (try go_wp2)
      go_roundw
      case rel => exact ⟨k + 1, _, by omega, by go_num, HS6.out, HC6, by simp [hL]⟩
      case measure => simp [intOf]; omega
    · obtain rfl : k = 24 := by omega
      obtain ⟨A', c', rfl, ho⟩ := hS.lst.form (n := 24) hL
      have HS := hide hS
      clear hS ho
      go_wp2
      go_ret
      exact ⟨A', c', ts, rfl, HS.out, hC.out⟩

/-! ### the first one of the faces -/
theorem fcards_at {cards : List Int} (hf : ∀ x ∈ cards, 0 ≤ x ∧ x < 52) {i : Nat} (hi : i < cards.length) : ∃ x : Nat, cards.getD i 0 = (x : Int) ∧ x < 52 := by
  have e : cards.getD i 0 = cards[i] := by simp [List.getD, hi]
  have h := hf _ (List.getElem_mem hi)
  rw [e]
  exact ⟨cards[i].toNat, by omega, by omega⟩
theorem face_step (o cards : List Int) {i : Nat} (hi : i < cards.length) : (cards.take (i + 1)).map (fcard o) = (cards.take i).map (fcard o) ++ [fcard o (cards.getD i 0)] := by
  have e : cards.getD i 0 = cards[i] := by simp [List.getD, hi]
  rw [e, List.take_succ_eq_append_getElem hi, List.map_append]
  rfl
theorem fcard_nat (o : List Int) (x y : Nat) (h : o.getD (x / 13) 0 = (y : Int)) : fcard o (x : Int) = (x : Int) % 13 + 13 * (y : Int) := by
  unfold fcard
  rw [show ((x : Int) / 13).toNat = x / 13 by omega, h]
theorem faceM_take {os : List (List Int)} {k : Nat} (cards : List Int) (hk : k < os.length) : faceM (os.take (k + 1)) cards = pick2 (faceM (os.take k) cards) (faceOn (os.getD k []) cards) := by
  have e : os.getD k [] = os[k] := by simp [List.getD, hk]
  rw [List.take_succ_eq_append_getElem hk, faceM_step, e]
theorem getD_mem_os {os : List (List Int)} {k : Nat} (h : k < os.length) : os.getD k [] ∈ os := by
  have : os.getD k [] = os[k] := by simp [List.getD, h]
  rw [this]
  exact List.getElem_mem h
/-- the best list up to now: none, or one of the call's own -/
def Bst (w : World) (B : Nat) (A : Option Addr) (c : Nat) (n k : Nat) (l : List Int) : Prop := (k = 0 ∧ A = none ∧ c = 0 ∧ l = []) ∨ (0 < k ∧ Own w B A n c l)
def nbOf (n k : Nat) : Nat := if k = 0 then 0 else n

set_option maxRecDepth 20000 in
set_option maxHeartbeats 8000000 in
theorem faceOf_any (A : Option Addr) (n c : Nat) (cards : List Int) (A2 : Option Addr) (m c2 : Nat) (ts : List Sl) (os : List (List Int)) (w : World) (hR : Rd w w.heap.size A n cards) (hn0 : 0 < n) (hn : n ≤ 1000) (hf : ∀ x ∈ cards, 0 ≤ x ∧ x < 52)
    (hT : RdS w w.heap.size A2 m ts) (he : con ts = os) (hm0 : 0 < m) (hm : m ≤ 1000) (ho : ∀ o ∈ os, o.length = 4 ∧ ∀ i : Nat, i < 4 → 0 ≤ o.getD i 0 ∧ o.getD i 0 < 4) :
    Calls Try.prog 68 #[.slice A n c, .slice A2 m c2] w fun e w' => ∃ A' c', e = .returned (.slice A' n c') ∧ Own w' w.heap.size A' n c' (faceM os cards) ∧ Below w.heap.size w w' := by
  have hl := hR.len
  have hml : os.length = m := by rw [← he, con_len, hT.len]
  have hnil := fun (w : World) (a : Option Addr) (l c : Nat) => Lib.run_eql_slice_nil (P := Try.prog) w 22 2 a l c 0 0 Try.underlying22
  have HNIL := hide hnil
  have HF := hide hf
  have HO := hide ho
  have HE := hide he
  clear hnil hf ho he
  go_enter Try.func68, Try.ntmps68
  go_wp2
  go_loopw [5, 13] (fun bv ix wr => ∃ (k : Nat) (Ab : Option Addr) (cb : Nat), k ≤ m ∧ ix = .int .i64 k ∧ bv = .slice Ab (nbOf n k) cb ∧ Bst wr w.heap.size Ab cb n k (faceM (os.take k) cards) ∧ Below w.heap.size w wr) (fun _ ix _ => m - (intOf ix).toNat)
  case atStart => exact ⟨0, none, 0, Nat.zero_le _, rfl, rfl, .inl ⟨rfl, rfl, rfl, rfl⟩, Below.refl _ _⟩
  case round =>
    obtain ⟨k, Ab, cb, hk, rfl, rfl, hB, hb⟩ := hrel
    by_cases hlt : k < m
    · obtain ⟨b, o, t, rfl, hbB, ht, hc, hok⟩ := (hT.below hb).at_ hlt
      have hst := faceM_take (os := os) (k := k) cards (by omega)
      have hto : os.getD k [] = t.xs := by
        have h1 := con_at ht
        rw [HE.out] at h1
        simp [List.getD, h1]
      have hox := HO.out t.xs (by rw [← hto]; exact getD_mem_os (by omega))
      rw [hto] at hst
      obtain ⟨tA, tn, tc, txs⟩ := t
      simp only at hst hox hc
      have htn : tn = 4 := (show txs.length = tn from hok.1.len).symm.trans hox.1
      subst htn
      obtain ⟨tb, tof, etA, htB, htc⟩ := hok.1.2 (show 0 < 4 by decide)
      simp only at etA htc
      subst etA
      have HST := hide hst
      have HB := hide hB
      have HBW := hide hb
      have HTC := hide htc
      have HOX := hide hox.2
      have hz := hb.size
      have HRo := hide (hR.below hb)
      obtain ⟨wo, rfl⟩ : ∃ wo : World, wo = wr := ⟨_, rfl⟩
      clear hst hB htc hox ht hok hto hb
      go_wp2
      go_loopw [8, 20] (fun lv ix wr => ∃ i : Nat, i ≤ n ∧ ix = .int .i64 i ∧ Lst wr wo.heap.size lv ((cards.take i).map (fcard txs)) ∧ Below wo.heap.size wo wr) (fun _ ix _ => n - (intOf ix).toNat)
      case atStart => exact ⟨0, Nat.zero_le _, rfl, Lst.new wo (Nat.le_refl _), (Below.refl _ _).alloc (Nat.le_refl _) _⟩
      case round =>
        obtain ⟨i, hi, rfl, hL, hb⟩ := hrel
        by_cases hlt2 : i < n
        · have hix : i < cards.length := by omega
          have hfs := face_step txs cards hix
          obtain ⟨x, hx, hx52⟩ := fcards_at HF.out hix
          obtain ⟨b3, o3, rfl, hbB3, hc3⟩ := (HRo.out.below (hb.mono hz)).at_ hlt2
          rw [hx] at hfs hc3
          have hq : x / 13 < 4 := by omega
          have hoy := HOX.out (x / 13) hq
          have hcy := HTC.out (x / 13) hq
          obtain ⟨y, hy⟩ : ∃ y : Nat, txs.getD (x / 13) 0 = (y : Int) := ⟨(txs.getD (x / 13) 0).toNat, by omega⟩
          rw [fcard_nat _ _ _ hy] at hfs
          rw [hy] at hoy hcy
          have hcy2 : wr.cell? ⟨tb, tof + x / 13, none⟩ = some (.int .i64 (y : Int)) := (hb.cell (p := ⟨tb, tof + x / 13, none⟩) (by simp; omega)).trans hcy
          have hml2 : ((cards.take i).map (fcard txs)).length = i := by rw [List.length_map, List.length_take]; omega
          have HFS := hide hfs
          obtain ⟨PL, hPL⟩ := ex_eq ((cards.take i).map (fcard txs))
          rw [hPL] at hL HFS hml2
          have HL := hide hL
          have HBI := hide hb
          have hzi := hb.size
          have h13 : x % 13 < 13 := Nat.mod_lt _ (by decide)
          clear hfs hx hcy hL hb hPL hix hy
          go_wp2_with (at_builtin; refine wpList_app rfl (.tmp 24) (.tmp 34) rfl wo.heap.size _ PL [(x : Int) % 13 + 13 * (y : Int)] rfl (HL.out.alloc _) (some ⟨wr.heap.size, 0, none⟩) 1 1 rfl (rd_one wr ((x : Int) % 13 + 13 * (y : Int)) 2) (fun h => by cases h) (by rw [hml2]; omega) (by simp; omega) ?_; intro v4 w4 ho4 hg4 _; have hb4 : Below wo.heap.size wo w4 := (HBI.out.alloc hzi _).trans (Lst.grown (HL.out.alloc _) hg4 (by simp; omega)))
          have HO4 := hide ho4
          have HB4 := hide hb4
          clear ho4 hg4 hb4
          (try go_wp2)
          go_roundw
          case rel => exact ⟨i + 1, by omega, by go_num, by rw [HFS.out]; exact HO4.out, HB4.out⟩
          case measure => simp [intOf]; omega
        · obtain rfl : i = n := by omega
          have hta : cards.take i = cards := List.take_of_length_le (by omega)
          rw [hta] at hL
          obtain ⟨A8, c8, rfl, hO8⟩ := hL.formn (n := i) (by rw [List.length_map]; exact hl)
          have HSR := hide (Sort_any A8 i c8 _ wo.heap.size wr hO8 (by omega))
          have hfo : srt (cards.map (fcard txs)) = faceOn txs cards := rfl
          rw [hfo] at HSR
          have hfl : (faceOn txs cards).length = i := by rw [faceOn_len]; exact hl
          obtain ⟨LS, hLS⟩ := ex_eq (faceOn txs cards)
          rw [hLS] at HSR HST hfl
          have HO8 := hide hO8
          have HBI := hide hb
          have hzi := hb.size
          clear hL hO8 hb hta hfo hLS
          rcases HB.out with ⟨rfl, rfl, rfl, hl0⟩ | ⟨hk0, hob⟩
          · have HP := hide (show faceM (os.take (0 + 1)) cards = LS by rw [HST.out, hl0]; simp [pick2])
            clear hl0 HB HST
            go_upto_region 12 with (go_at_call 99; refine HSR.out.mono ?_; rintro e w6 ⟨rfl, ho6, hg6⟩)
            have HO6 := hide (ho6.mono hz)
            have HB6 := hide (HBI.out.trans (grown_below hg6 HBI.out.size (fun q hq => (HO8.out.ownBlock q hq).1)))
            have hnil := HNIL.out
            clear ho6 hg6
            go_wp2
            go_roundw
            case rel => exact ⟨0 + 1, A8, c8, by omega, by go_num, rfl, .inr ⟨by omega, by rw [HP.out]; exact HO6.out⟩, HBW.out.trans (HB6.out.mono hz)⟩
            case measure => simp [intOf]; omega
          · have hnb : nbOf i k = i := by unfold nbOf; rw [if_neg (by omega)]
            have hnb1 : nbOf i (k + 1) = i := by unfold nbOf; rw [if_neg (by omega)]
            rw [hnb]
            obtain ⟨BL, hBL⟩ := ex_eq (faceM (os.take k) cards)
            rw [hBL] at hob HST
            have hbl := hob.len
            obtain ⟨gb, rfl, hgb1, hgb2⟩ := hob.form hn0
            have HOB := hide hob
            have HBLN := hide (show ¬ BL = [] by rintro rfl; simp at hbl; omega)
            clear hob hBL HB
            go_upto_region 12 with (go_at_call 99; refine HSR.out.mono ?_; rintro e w6 ⟨rfl, ho6, hg6⟩)
            have hb6 := HBI.out.trans (grown_below hg6 HBI.out.size (fun q hq => (HO8.out.ownBlock q hq).1))
            have HOB6 := hide (HOB.out.below hb6 (Nat.le_refl _))
            have HCM := hide (Compare_any A8 i c8 LS (some ⟨gb, 0, none⟩) cb BL w6 ho6.rd HOB6.out.rd (by omega))
            have HO6 := hide (ho6.mono hz)
            have HB6 := hide hb6
            have hnil := HNIL.out
            clear ho6 hg6 hb6
            cases hlx : lexB LS BL
            · have HP := hide (show faceM (os.take (k + 1)) cards = BL by rw [HST.out]; unfold pick2; rw [if_neg (by rintro (h | h); exact HBLN.out h; rw [hlx] at h; cases h)])
              rw [hlx] at HCM
              clear HST hlx
              go_wp2_with (go_at_call 100; refine HCM.out.mono ?_; rintro e w7 ⟨r, rfl, hr, rfl⟩)
              go_roundw
              case rel => exact ⟨k + 1, some ⟨gb, 0, none⟩, cb, by omega, by go_num, by rw [hnb1], .inr ⟨by omega, by rw [HP.out]; exact HOB6.out⟩, HBW.out.trans (HB6.out.mono hz)⟩
              case measure => simp [intOf]; omega
            · have HP := hide (show faceM (os.take (k + 1)) cards = LS by rw [HST.out]; unfold pick2; rw [if_pos (.inr hlx)])
              rw [hlx] at HCM
              clear HST hlx
              go_wp2_with (go_at_call 100; refine HCM.out.mono ?_; rintro e w7 ⟨r, rfl, hr, rfl⟩)
              go_roundw
              case rel => exact ⟨k + 1, A8, c8, by omega, by go_num, by rw [hnb1], .inr ⟨by omega, by rw [HP.out]; exact HO6.out⟩, HBW.out.trans (HB6.out.mono hz)⟩
              case measure => simp [intOf]; omega
    · obtain rfl : k = m := by omega
      have e1 : os.take k = os := List.take_of_length_le (by omega)
      have e2 : nbOf n k = n := by unfold nbOf; rw [if_neg (by omega)]
      rw [e1] at hB
      rw [e2]
      rcases hB with ⟨h0, _⟩ | ⟨_, hO⟩
      · omega
      · clear e1 e2
        go_wp2
        go_ret
        exact ⟨Ab, cb, rfl, hO, hb⟩

/-! ### FaceOf -/
def faceOk (xs : List Int) : Bool := handB xs 1 7
def faceOut (xs : List Int) : List Int := if faceOk xs = true then faceM ords24 xs else []
theorem face_parts {xs : List Int} (h : faceOk xs = true) : (1 ≤ xs.length ∧ xs.length ≤ 7) ∧ ∀ x ∈ xs, 0 ≤ x ∧ x < 52 := by
  unfold faceOk handB at h
  simp only [Bool.and_eq_true, decide_eq_true_eq] at h
  exact ⟨h.1, (cards_nodup h.2).2⟩
theorem ords24_ne : ords24 ≠ [] := by decide +kernel
theorem ords24_len : ords24.length = 24 := by decide +kernel
theorem faceOut_of {xs : List Int} (h : faceOk xs = true) : (faceM ords24 xs).length = xs.length := faceM_len (by have := (face_parts h).1; omega) ords24_ne
theorem faceOut_len (xs : List Int) : (faceOut xs).length ≤ 1048576 := by
  unfold faceOut
  split
  · rename_i h
    rw [faceOut_of h]
    have := (face_parts h).1
    omega
  · simp
set_option maxHeartbeats 4000000 in
theorem impl_FaceOf (A : Option Addr) (n c : Nat) (xs : List Int) (w : World) (hR : Rd w w.heap.size A n xs) (hn : n ≤ 1048576) (hnc : n ≤ c) :
    Calls Try.prog 39 #[.slice A n c] w fun e w' => ∃ A' c', e = .returned (.tuple #[.slice A' (faceOut xs).length c', .bool (faceOk xs)]) ∧ Own w' w.heap.size A' (faceOut xs).length c' (faceOut xs) ∧ Below w.heap.size w w' := by
  have hl := hR.len
  have HH := hide (impl_IsHand A n c xs w hR hn hnc)
  cases hk : faceOk xs
  · have hO : faceOut xs = [] := by simp [faceOut, hk]
    have hk' : handB xs 1 7 = false := hk
    rw [hO]
    rw [hk'] at HH
    clear hO hk hk' hR
    go_enter Try.func39, Try.ntmps39
    go_wp2_with (go_at_call 18; refine HH.out.mono ?_; rintro e w1 ⟨rfl, hb1⟩)
    go_ret2
    exact ⟨none, 0, rfl, Own.nil _ _, hb1⟩
  · have hO : faceOut xs = faceM ords24 xs := by simp [faceOut, hk]
    have hk' : handB xs 1 7 = true := hk
    obtain ⟨hp1, hp2⟩ := face_parts hk
    have hfl := faceOut_of hk
    rw [hl] at hfl hp1
    rw [hO, hfl]
    rw [hk'] at HH
    have HFO := hide (fun (A2 : Option Addr) (c2 : Nat) (ts : List Sl) (W : World) (h1 : Rd W W.heap.size A n xs) (h2 : RdS W W.heap.size A2 24 ts) (h3 : con ts = ords24) => faceOf_any A n c xs A2 24 c2 ts ords24 W h1 hp1.1 (by omega) hp2 h2 h3 (by omega) (by omega) ords_fine)
    obtain ⟨FL, hFL⟩ := ex_eq (faceM ords24 xs)
    rw [hFL] at HFO ⊢
    have HR := hide hR
    clear hk hk' hO hfl hFL hR
    go_enter Try.func39, Try.ntmps39
    go_wp2_with (first | (go_at_call 18; refine HH.out.mono ?_; rintro e w1 ⟨rfl, hb1⟩; have hz1 := hb1.size) | (go_at_call 69; refine (suitOrders_any _).mono ?_; rintro e w2 ⟨A2, c2, ts, rfl, hs2, hc2⟩; have hz2 := hs2.below.size; have hb2 := hb1.trans (hs2.below.mono hz1); have HF2 := hide (HFO.out A2 c2 ts w2 ((HR.out.below hb2).more hb2.size) (hs2.rd (by rw [← con_len, hc2, ords24_len])) hc2)) | (go_at_call 68; refine HF2.out.mono ?_; rintro e w3 ⟨A3, c3, rfl, ho3, hb3⟩))
    go_ret2
    exact ⟨A3, c3, rfl, ho3.mono hb2.size, hb2.trans (hb3.mono hb2.size)⟩

end Go.Proofs.Ytlldocdmjeeaaaa.hand
