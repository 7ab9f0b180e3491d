/-
  The value of five cards in the implementation: the ranks sorted by their counts. Conditions: those of each theorem.
-/
import Derived.Test.YtlldocdmjeeaaaaLook
import Derived.Test.YtlldocdmjeeaaaaSortFL
import Derived.Shelf.SlSortCmp.NoneTotal
namespace Go.Proofs.Ytlldocdmjeeaaaa.hand
open Go.RowKit Go.Shelf
open base mem

/-! ### the order, in numbers alone -/
def cfR (cs : List Nat) (a b : Fin 13) : Int := if cs.getD a.val 0 = cs.getD b.val 0 then (b.val : Int) - a.val else ((cs.getD b.val 0 : Nat) : Int) - (cs.getD a.val 0 : Nat)
theorem lt_iff (cs : List Nat) (a b : Fin 13) : ltOf (cfR cs) a b = true ↔ (cs.getD b.val 0 < cs.getD a.val 0 ∨ (cs.getD a.val 0 = cs.getD b.val 0 ∧ b.val < a.val)) := by
  unfold ltOf cfR
  rw [decide_eq_true_iff]
  by_cases h : cs.getD a.val 0 = cs.getD b.val 0
  · rw [if_pos h]; omega
  · rw [if_neg h]; omega
theorem lt_no (cs : List Nat) (a b : Fin 13) : ltOf (cfR cs) a b = false ↔ bef cs b.val a.val := by
  rw [← Bool.not_eq_true, lt_iff]
  unfold bef
  omega
theorem swo_cf (cs : List Nat) : Sort.SWO (ltOf (cfR cs)) := by
  refine ⟨fun x => ?_, fun x y z h1 h2 => ?_, fun x y z h1 h2 => ?_⟩
  · rw [lt_no]; exact .inr ⟨rfl, Nat.le_refl _⟩
  · rw [lt_iff] at *; omega
  · rw [lt_no] at *; unfold bef at *; omega
theorem tot_cf (cs : List Nat) (x y : Fin 13) (h1 : ltOf (cfR cs) x y = false) (h2 : ltOf (cfR cs) y x = false) : x = y := by
  rw [lt_no] at *
  unfold bef at *
  apply Fin.ext
  omega
def encR (r : Fin 13) : Value := .int .i64 (r.val : Int)
def srtR (cs : List Nat) (l : List (Fin 13)) : List (Fin 13) := l.mergeSort fun x y => !(ltOf (cfR cs) y x)
theorem srtR_perm (cs : List Nat) (l : List (Fin 13)) : (srtR cs l).Perm l := List.mergeSort_perm l _
theorem srtR_sorted (cs : List Nat) (l : List (Fin 13)) : ((srtR cs l).map Fin.val).Pairwise (bef cs) := by
  have h := List.pairwise_mergeSort (le := fun x y : Fin 13 => !(ltOf (cfR cs) y x)) (fun a b c h1 h2 => by
    simp only [Bool.not_eq_true', lt_no] at *
    unfold bef at *
    omega) (fun a b => by
    rw [Bool.or_eq_true]
    simp only [Bool.not_eq_true', lt_no]
    unfold bef
    omega) l
  rw [List.pairwise_map]
  refine List.Pairwise.imp ?_ h
  intro a b hab
  simp only [Bool.not_eq_true', lt_no] at hab
  exact hab
/-- the ranks in order are what the reference makes -/
theorem srtR_ord (xs : List Int) (hn : xs.Nodup) (hr : ∀ x ∈ xs, 0 ≤ x ∧ x < 52) (l : List (Fin 13)) (hl : l.map Fin.val = rankL xs) : (srtR (cntN xs) l).map Fin.val = ordN (cntN xs) := by
  refine ord_unique _ (cntN_four xs hn hr) _ (fun r => ?_) (srtR_sorted _ _)
  have hp := (srtR_perm (cntN xs) l).map Fin.val
  rw [List.perm_iff_count.1 hp r, hl, rank_count]
/-! ### memory -/
theorem sortW_blk {α : Type} [Inhabited α] (enc : α → Value) (w : World) (blk m : Nat) (dk : Array α) (os : Array Obj) (k : Nat) (hk : k < w.heap.size) (hne : k ≠ blk) :
    (sortWorld enc w blk 0 m dk os).heap[k]? = w.heap[k]? := by
  have hsz : (Sort.putRow enc (Sort.ahead w m) blk 0 dk).heap.size = w.heap.size := by simp [Sort.putRow, Sort.mapBlock, Sort.ahead]
  unfold sortWorld Sort.grow
  simp only
  rw [Array.getElem?_append_left (by rw [hsz]; exact hk)]
  simp [Sort.putRow, Sort.mapBlock, Sort.ahead, Array.getElem?_modify, Ne.symm hne]
theorem own_putR {w : World} {B g n c : Nat} {xs : List Int} (h : Own w B (some ⟨g, 0, none⟩) n c xs) (ys : List (Fin 13)) (hy : ys.length = n) (q : Nat) (os : Array Obj) :
    Own (sortWorld encR w g 0 q ys.toArray os) B (some ⟨g, 0, none⟩) n c (castL (ys.map Fin.val)) ∧ w.grownBy (sortWorld encR w g 0 q ys.toArray os) (some g) := by
  unfold Own World.ownsRow at h
  obtain ⟨h1, h2⟩ := h
  rcases h2 with ⟨h2, _⟩ | ⟨g', cap, cur, hv, hb, hg, hnc, hcm, hcs, hct⟩
  · cases h2
  injection hv with e1 e2 e3
  injection e1 with e1
  injection e1 with e1
  subst e1 e3
  have hlt : g < w.heap.size := (Array.getElem?_eq_some_iff.1 hg).1
  have hgw : (Sort.ahead w q).heap[g]? = some (.cells cur 2 (0, 0)) := hg
  have hsz : (Sort.putRow encR (Sort.ahead w q) g 0 ys.toArray).heap.size = w.heap.size := by simp [Sort.putRow, Sort.mapBlock, Sort.ahead]
  have hgn : (sortWorld encR w g 0 q ys.toArray os).heap[g]? = some (.cells (Sort.putCells encR 0 ys.toArray cur) 2 (0, 0)) := by
    unfold sortWorld Sort.grow
    simp only
    rw [Array.getElem?_append_left (by rw [hsz]; exact hlt)]
    unfold Sort.putRow Sort.mapBlock
    simp only [Array.getElem?_modify, if_true, hgw, Option.map_some, Sort.onCells]
  refine ⟨⟨by simp [ivs, castL]; omega, .inr ⟨g, c, _, rfl, hb, hgn, hnc, hcm, ?_, ?_⟩⟩, ?_⟩
  · rw [← hcs]; simp [Sort.putCells]
  · apply List.ext_getElem?
    intro k
    simp only [Nat.mul_one, ivs, castL, List.getElem?_take, List.getElem?_map, Array.getElem?_toList, Sort.putCells, Array.getElem?_mapIdx]
    by_cases hk : k < n
    · have hk2 : k < cur.size := by omega
      have hk3 : k < ys.length := by omega
      simp [hk, hk2, hk3, encR]
    · have hk3 : ¬ k < ys.length := by omega
      simp [hk, hy]
  · refine ⟨rfl, rfl, rfl, by unfold sortWorld Sort.grow; simp [hsz], fun k hk hk2 => sortW_blk _ _ _ _ _ _ k hk (fun e => hk2 (by rw [e]))⟩
theorem own_holdsR {w : World} {B g n c : Nat} (l : List (Fin 13)) (h : Own w B (some ⟨g, 0, none⟩) n c (castL (l.map Fin.val))) : Sort.Holds encR w g 0 l.toArray := by
  intro j hj
  have hl := h.len
  have hj2 : j < l.length := by simpa using hj
  have h1 := World.ownsRow.cellAt (h := h) j (by rw [castL_len, List.length_map] at hl; omega)
  rw [ivs_at _ _ (by rw [castL_len, List.length_map]; exact hj2), castL_at] at h1
  refine ⟨?_, ?_⟩
  · rw [Nat.zero_add, h1]
    simp [hj2, encR, List.getD]
  · rw [Nat.zero_add]; exact World.ownsRow.frozenAt (h := h) j

theorem valueOf1_any (cs : List Nat) (h13 : cs.length = 13) (h4 : ∀ r, cs.getD r 0 ≤ 4) (g : Nat) (w : World) (hb : Blk w g 76 (nvs cs)) (x y : Fin 13) :
    Calls Try.prog 93 (#[encR x, encR y] ++ #[.pointer (some ⟨g, 0, none⟩)]) w fun e w' => e = .returned (.int .i64 (cfR cs x y)) ∧ ∃ q, w' = w.drewN q := by
  obtain ⟨a, ha⟩ := x
  obtain ⟨b, hb'⟩ := y
  have c1 := hb.cell a
  have c2 := hb.cell b
  rw [nvs_at _ _ (by omega)] at c1 c2
  have k1 := h4 a
  have k2 := h4 b
  have hcf : cfR cs ⟨a, ha⟩ ⟨b, hb'⟩ = if cs.getD a 0 = cs.getD b 0 then (b : Int) - a else ((cs.getD b 0 : Nat) : Int) - (cs.getD a 0 : Nat) := rfl
  obtain ⟨u, hu⟩ := ex_eq (cs.getD a 0)
  obtain ⟨v, hv⟩ := ex_eq (cs.getD b 0)
  rw [hu] at c1 k1
  rw [hv] at c2 k2
  rw [hu, hv] at hcf
  obtain ⟨E, hE⟩ := ex_eq (cfR cs ⟨a, ha⟩ ⟨b, hb'⟩)
  rw [hE] at hcf ⊢
  have HCF := hide hcf
  show Calls Try.prog 93 #[.int .i64 (a : Int), .int .i64 (b : Int), .pointer (some ⟨g, 0, none⟩)] w _
  clear hu hv hE hcf hb h4 h13
  by_cases huv : u = v
  · have HF := hide (show E = (b : Int) - a by rw [HCF.out, if_pos huv])
    have hb1 : ((u : Int) != (v : Int)) = false := by simp [huv]
    have hb2 : (u != v) = false := by simp [huv]
    clear huv HCF
    go_enter Try.func93, Try.ntmps93
    go_wp2
    go_quiet (fail)
    go_wp2
    go_ret
    exact ⟨by rw [HF.out]; rfl, nq, rfl⟩
  · have HF := hide (show E = (v : Int) - u by rw [HCF.out, if_neg huv])
    have hb1 : ((u : Int) != (v : Int)) = true := by simp; omega
    have hb2 : (u != v) = true := by simp [huv]
    clear huv HCF
    go_enter Try.func93, Try.ntmps93
    go_wp2
    go_quiet (fail)
    go_wp2
    go_quiet (fail)
    go_wp2
    go_ret
    exact ⟨by rw [HF.out]; rfl, _, by rw [World.drewN_drewN]⟩

theorem SortFunc_any (cs : List Nat) (h13 : cs.length = 13) (h4 : ∀ r, cs.getD r 0 ≤ 4) (gc : Nat) (A : Option Addr) (n c : Nat) (l : List (Fin 13)) (B : Nat) (w : World) (h : Own w B A n c (castL (l.map Fin.val)))
    (hb : Blk w gc 76 (nvs cs)) (hgc : gc < B) (hn : 0 < n) (hn2 : n ≤ 1000) :
    Calls Try.prog 92 #[.slice A n c, .func (.func 93) #[] #[.pointer (some ⟨gc, 0, none⟩)]] w fun e w' => e = .returned (.tuple #[]) ∧ Own w' B A n c (castL ((srtR cs l).map Fin.val)) ∧ w.grownBy w' (Value.slice A n c).ownBlock := by
  have hl : l.length = n := by have := h.len; rw [castL_len, List.length_map] at this; exact this
  obtain ⟨g, rfl, hBg, hgs⟩ := h.form hn
  have hcmp : CmpReads Try.prog 93 #[.pointer (some ⟨gc, 0, none⟩)] encR (cfR cs) g 0 l.toArray.size w := fun m os dk _ x y =>
    (valueOf1_any cs h13 h4 gc _ (by unfold Blk; rw [sortW_blk _ _ _ _ _ _ _ hb.lt (by omega)]; exact hb) x y).mono fun _ _ ⟨he, q, hq⟩ => ⟨he, q, hq⟩
  have H := Any.slices_SortFunc_total sortFL encR (fun _ => rfl) (cfR cs) (swo_cf cs) 93 #[.pointer (some ⟨gc, 0, none⟩)] g 0 c l.toArray w (enters_of Try.func93 (by kernel_rfl) rfl) (CmpReads.lays hcmp) (own_holdsR l h) hgs (by simp; omega) (tot_cf cs)
  rw [show l.toArray.size = n by simp [hl]] at H
  refine H.mono ?_
  rintro e w' ⟨rfl, q, os, rfl⟩
  have hp := own_putR h (srtR cs l) (by rw [(srtR_perm cs l).length_eq, hl]) q os
  exact ⟨rfl, hp.1, hp.2⟩
/-- the ranks of cards, each below 13 -/
def ranksF (xs : List Int) : List (Fin 13) := xs.map fun x => ⟨(x % 13).toNat, by have := Int.emod_lt_of_pos x (show (0 : Int) < 13 by decide); have := Int.emod_nonneg x (show (13 : Int) ≠ 0 by decide); omega⟩
theorem ranksF_val (xs : List Int) : (ranksF xs).map Fin.val = rankL xs := by simp [ranksF, rankL, Function.comp]
theorem rankL_step {xs : List Int} {k n : Nat} (h : xs.length = n) (hk : k < n) {x : Nat} (hx : xs.getD k 0 = (x : Int)) : castL (rankL (xs.take (k + 1))) = castL (rankL (xs.take k)) ++ [((x % 13 : Nat) : Int)] := by
  have hkx : k < xs.length := by omega
  have e : xs[k] = (x : Int) := by rw [← hx]; simp [List.getD, hkx]
  rw [List.take_succ_eq_append_getElem hkx, e]
  simp [rankL, castL]
  omega

set_option maxRecDepth 100000 in
set_option maxHeartbeats 4000000 in
theorem valueOf_any (A : Option Addr) (c : Nat) (xs : List Int) (B : Nat) (w : World) (hR : Rd w B A 5 xs) (hB : B ≤ w.heap.size) (hn : xs.Nodup) (hr : ∀ x ∈ xs, 0 ≤ x ∧ x < 52) :
    Calls Try.prog 57 #[.slice A 5 c] w fun e w' => e = .returned (.int .i64 (valL xs)) ∧ Below w.heap.size w w' := by
  have HL := hide hR.len
  have h13 := cntN_len xs
  have h4 := cntN_four xs hn hr
  have hve := valL_eq hn hr hR.len
  have HKO := hide (kindOf_any A c xs w.heap.size w (hR.more hB) (Nat.le_refl _) hn hr)
  have HRK := hide (fun (q : World) (hb : Below w.heap.size w q) => rankCounts_any A 5 c xs w.heap.size q ((hR.more hB).below hb) hb.size (by omega) hr)
  have hso := srtR_ord xs hn hr (ranksF xs) (ranksF_val xs)
  have hrow := rowV_range (cntN xs)
  have hkr := kindL_range xs
  have hol := ordN_len hn hr
  have hvr := valL_range hn hr hR.len
  have hlt := ordN_lt (cntN xs)
  have HRR := hide (show ∀ k, k < 5 → ∃ x : Nat, xs.getD k 0 = (x : Int) ∧ x < 52 from fun k hk => by
    have hkx : k < xs.length := by rw [HL.out]; exact hk
    have e : xs.getD k 0 = xs[k] := by simp [List.getD, hkx]
    have h := hr _ (List.getElem_mem hkx)
    obtain ⟨x, hx⟩ := Int.eq_ofNat_of_zero_le h.1
    exact ⟨x, by rw [e, hx], by omega⟩)
  obtain ⟨V, hV⟩ := ex_eq (valL xs)
  obtain ⟨K, hK⟩ := ex_eq (kindL xs)
  rw [hV] at hve hvr ⊢
  rw [hK] at hve hkr HKO
  obtain ⟨cs, hcs⟩ := ex_eq (cntN xs)
  rw [hcs] at HRK hve h13 h4 hso hrow hol hlt
  have HSF := hide (fun gc A n c B w h hb hgc hn hn2 => SortFunc_any cs h13 h4 gc A n c (ranksF xs) B w h hb hgc hn hn2)
  rw [hso, ranksF_val] at HSF
  have HRW := hide (rowOf_any cs h13 (fun r => by have := h4 r; omega))
  obtain ⟨R, hR0⟩ := ex_eq (rowV cs)
  rw [hR0] at HRW hrow hve
  have hsz : (nvs cs).size = 13 := by rw [nvs_size, h13]
  have hsc : ∀ W : World, (storeCells ⟨W.heap.size, 0, none⟩ (nvs cs).toList 0).run Try.prog (W.alloc (.cells #[.int .i64 0, .int .i64 0, .int .i64 0, .int .i64 0, .int .i64 0, .int .i64 0, .int .i64 0, .int .i64 0, .int .i64 0, .int .i64 0, .int .i64 0, .int .i64 0, .int .i64 0] 76)) = .ok () (W.alloc (.cells (nvs cs) 76)) :=
    fun W => run_storeCells_new W _ _ _ (by rw [hsz]; exact info13) (by rw [hsz]; rfl) (by rw [← Array.all_toList, List.all_eq_true]; exact nvs_one cs)
  have HSC := hide hsc
  have HSZ := hide hsz
  have HVE := hide hve
  have HOL := hide (show (ordN cs).length = 5 by rw [hol, HL.out])
  have HLT := hide hlt
  have hRR := hR.more hB
  clear hsc hsz hve hol hlt hso h13 h4 hn hr hV hK hcs hR0 hR
  go_enter Try.func57, Try.ntmps57
  go_upto_region 2 with (first | (go_at_call 56; refine (HKO.out).mono ?_; rintro e w1 ⟨rfl, hb1⟩) | (go_at_call 88; refine (HRK.out _ hb1).mono ?_; rintro e w2 ⟨rfl, hb2⟩; have hsc1 := HSC.out w2))
  have hbk := Blk.new w2 76 (nvs cs)
  have hbw2 : Below w.heap.size w w2 := hb1.trans (hb2.mono hb1.size)
  have hbw := hbw2.alloc hbw2.size (.cells (nvs cs) 76)
  have hz2 : w.heap.size ≤ w2.heap.size := hbw2.size
  have HBW := hide hbw
  have HBK := hide hbk
  clear hsc1 hb1 hb2 hbw2 hbw HKO HRK HSC
  have fin : ∀ (b4 b8 : Bool), ((K : Int) == 4) = b4 → ((K : Int) == 8) = b8 → True := fun _ _ _ _ => trivial
  clear fin
  by_cases h48 : K = 4 ∨ K = 8
  · have HF := hide (show V = K * 371293 + R * 28561 by rw [HVE.out, if_pos h48])
    have h3 := hbk
    rcases h48 with rfl | rfl
    all_goals
      go_wp2_with (first | (refine wpList_load_row rfl 76 (.tmp 4) rfl w2.heap.size rfl 76 (nvs cs) (0, 0) _ h3 Try.underlying76 rfl (by rw [HSZ.out]; exact info13) ?_) | (go_at_call 91; refine (HRW.out _).mono ?_; rintro e w3 ⟨rfl, hb3⟩))
      go_ret
      exact ⟨ret_int (by rw [HF.out]; omega), HBW.out.trans (hb3.mono (by simp; omega))⟩
  · have HF := hide (show V = K * 371293 + foldV 0 (ordN cs) by rw [HVE.out, if_neg h48])
    have e4 : ((K : Int) == 4) = false := by simp; omega
    have e8 : ((K : Int) == 8) = false := by simp; omega
    have HL0 := hide (Lst.new (w2.alloc (.cells (nvs cs) 76)) (B := w2.heap.size + 1) (by simp))
    have HB0 := hide (hbk.alloc (.cells #[] 2))
    have HW0 := hide (HBW.out.alloc (by simp; omega) (.cells #[] 2))
    clear h48 hbk HBK HBW
    go_wp2
    go_loopw [5, 30] (fun v5 i wr => ∃ k : Nat, k ≤ 5 ∧ i = .int .i64 k ∧ Lst wr (w2.heap.size + 1) v5 (castL (rankL (xs.take k))) ∧ Blk wr w2.heap.size 76 (nvs cs) ∧ Below w.heap.size w wr) (fun _ i _ => 5 - (intOf i).toNat)
    case atStart => exact ⟨0, by omega, rfl, by simpa [castL, rankL] using HL0.out, HB0.out, HW0.out⟩
    case round =>
      obtain ⟨k, hk, rfl, hO, hbk, hbw⟩ := hrel
      by_cases hlt : k < 5
      · obtain ⟨x, hx, hx52⟩ := HRR.out k hlt
        obtain ⟨b, o, rfl, hbB, hc⟩ := (hRR.below hbw).at_ hlt
        rw [hx] at hc
        have hst := rankL_step HL.out hlt hx
        have hOl : (castL (rankL (xs.take k))).length ≤ 5 := by rw [castL_len]; simp [rankL]; omega
        have hgi : w2.heap.size + 1 ≤ wr.heap.size := hbk.lt
        obtain ⟨O, hO'⟩ := ex_eq (castL (rankL (xs.take k)))
        rw [hO'] at hO hst hOl
        have HST := hide hst
        clear hx hst hO' hRR
        go_wp2_with (at_builtin; refine wpList_app rfl (.tmp 34) (.tmp 37) rfl (w2.heap.size + 1) _ O [((x : Int) % 13)] rfl (hO.alloc _) (some ⟨wr.heap.size, 0, none⟩) 1 1 rfl (rd_one wr ((x : Int) % 13) 2) (fun h => by cases h) (by omega) (by simp; omega) ?_; intro v5 w5 ho5 hg5 hbk5)
        have hO5 : Lst w5 (w2.heap.size + 1) v5 (castL (rankL (xs.take (k + 1)))) := by rw [HST.out]; exact ho5
        have hbk5' := (hbk.alloc (.cells #[.int .i64 ((x : Int) % 13)] 2)).grown hg5 (fun e => by have := (hO.blk _ e.symm).1; omega)
        have hbw5 := (hbw.alloc (by omega) (.cells #[.int .i64 ((x : Int) % 13)] 2)).grown hg5 (by simp; omega) (fun k hk => by have := (hO.blk k hk).1; omega)
        clear ho5 hg5 hbk5 hO hbk hbw
        go_roundw
        case rel => exact ⟨k + 1, by omega, by go_num, hO5, hbk5', hbw5⟩
        case measure => simp [intOf]; omega
      · have hk5 : k = 5 := by omega
        have d1 : decide ((k : Int) < 5) = false := decide_eq_false (by omega)
        rw [hk5, List.take_of_length_le (by rw [HL.out]; exact Nat.le_refl _)] at hO
        obtain ⟨A5, c5, rfl, ho⟩ := hO.formn (n := 5) (by rw [castL_len]; simp [rankL, HL.out])
        have hmf : ∀ (fn : Fn) (first cap : Array Value) (w : World), (Instr.makeFunc fn first cap).run Try.prog w = .ok (.func fn first cap) w := fun _ _ _ _ => rfl
        have hv0 : foldV 0 ((ordN cs).take 0) = 0 := rfl
        have HV0 := hide hv0
        have hgi : w2.heap.size + 1 ≤ wr.heap.size := hbk.lt
        clear hk5 hv0
        go_wp2_with (go_at_call 92; refine (HSF.out w2.heap.size A5 5 c5 (w2.heap.size + 1) wr ho hbk (Nat.lt_succ_self _) (by omega) (by omega)).mono ?_; rintro e w6 ⟨rfl, ho6, hg6⟩)
        have hb6 : Below w.heap.size w w6 := hbw.grown hg6 (by omega) (fun k hk => by have := (ho.ownBlock k hk).1; omega)
        have HB6 := hide hb6
        clear hb6 hg6 hbw hbk hO ho
        go_loopw [8, 45] (fun vv i wr => ∃ (j : Nat) (v : Int), j ≤ 5 ∧ i = .int .i64 j ∧ vv = .int .i64 v ∧ Hid (foldV 0 ((ordN cs).take j) = v) ∧ Hid (wr = w6)) (fun _ i _ => 5 - (intOf i).toNat)
        case atStart => exact ⟨0, 0, by omega, rfl, rfl, HV0, rfl⟩
        case round =>
          obtain ⟨j, v, hj, rfl, rfl, hv, hw⟩ := hrel
          by_cases hlt5 : j < 5
          · have hkL : j < (ordN cs).length := by rw [HOL.out]; exact hlt5
            have hbd := foldV_bound ((ordN cs).take j) 0 (by omega) 0 (by omega) (fun r hr => HLT.out r (List.mem_of_mem_take hr))
            rw [hv.out, List.length_take, Nat.min_eq_left (Nat.le_of_lt hkL)] at hbd
            have hpow : (13 : Int) ^ j ≤ 28561 := by
              obtain rfl | rfl | rfl | rfl | rfl : j = 0 ∨ j = 1 ∨ j = 2 ∨ j = 3 ∨ j = 4 := by omega
              all_goals decide
            have hr13 := HLT.out (ordN cs)[j] (List.getElem_mem hkL)
            have he : (ordN cs).getD j 0 = (ordN cs)[j] := by simp [List.getD, hkL]
            have hnx : foldV 0 ((ordN cs).take (j + 1)) = 13 * v + ((ordN cs).getD j 0 : Nat) := by
              rw [List.take_succ_eq_append_getElem hkL, he]
              have : ∀ (l : List Nat) (x : Nat) (u : Int), foldV u (l ++ [x]) = 13 * foldV u l + x := fun l x u => by simp [foldV, List.foldl_append]
              rw [this, hv.out]
            obtain ⟨b', o', rfl, hbb, hc⟩ := (ho6.rd).at_ hlt5
            rw [castL_at] at hc
            rw [← he] at hr13
            obtain ⟨x, hx⟩ := ex_eq ((ordN cs).getD j 0)
            rw [hx] at hc hr13 hnx
            have hcw : wr.cell? ⟨b', o' + j, none⟩ = some (.int .i64 (x : Int)) := by rw [hw.out]; exact hc
            have hb1 : 0 ≤ v ∧ v ≤ 300000 := by omega
            have HNX := hide hnx
            clear hbd hpow he hnx hbb hc hx hv hkL ho6
            go_wp2
            go_roundw
            case rel => exact ⟨j + 1, 13 * v + x, by omega, by go_num, rfl, HNX, hw⟩
            case measure => simp [intOf]; omega
          · have hk5' : j = 5 := by omega
            have hvv := hv.out
            rw [hk5', List.take_of_length_le (by rw [HOL.out]; exact Nat.le_refl _)] at hvv
            have HFE := hide (show V = K * 371293 + v by rw [HF.out, hvv])
            have h0v := (foldV_bound (ordN cs) 0 (by omega) 0 (by omega) HLT.out).1
            rw [hvv] at h0v
            have hvb : 0 ≤ v ∧ v ≤ 3341637 := by have := HFE.out; omega
            clear hk5' hv hvv
            go_wp2
            go_ret
            exact ⟨ret_int (by rw [HFE.out]), by rw [hw.out]; exact HB6.out⟩

theorem impl_KindOf (A : Option Addr) (n c : Nat) (xs : List Int) (w : World) (hR : Rd w w.heap.size A n xs) (hn : n ≤ 1048576) (hnc : n ≤ c) :
    Calls Try.prog 21 #[.slice A n c] w fun e w' => e = .returned (.tuple #[.int .i64 (if handB xs 5 5 = true then kindL xs else 0), .bool (handB xs 5 5)]) ∧ Below w.heap.size w w' := by
  have H := hide (isHand_any A n c xs 5 5 w.heap.size w hR hn hnc (by omega) (by omega))
  cases hh : handB xs 5 5
  · rw [hh] at H
    clear hR
    go_enter Try.func21, Try.ntmps21
    go_wp2_with fail
    refine H.out.mono ?_
    rintro e w' ⟨rfl, rfl⟩
    go_wp2
    go_ret2
    exact ⟨rfl, Below.refl _ _⟩
  · obtain rfl : n = 5 := by have := hand_len hh; rw [hR.len] at this; omega
    obtain ⟨hnd, hrg⟩ := cards_nodup (hand_cards hh)
    have HLK := hide (kindOf_any A c xs w.heap.size w hR (Nat.le_refl _) hnd hrg)
    rw [hh] at H
    rw [if_pos rfl]
    generalize kindL xs = K at *
    clear hR hnd hrg hh
    go_enter Try.func21, Try.ntmps21
    go_wp2_with (first | (go_at_call 53; refine H.out.mono ?_; rintro e w' ⟨rfl, rfl⟩) | (go_at_call 56; refine HLK.out.mono ?_; rintro e w2 ⟨rfl, hb2⟩))
    go_ret2
    exact ⟨rfl, hb2⟩

theorem impl_ValueOf (A : Option Addr) (n c : Nat) (xs : List Int) (w : World) (hR : Rd w w.heap.size A n xs) (hn : n ≤ 1048576) (hnc : n ≤ c) :
    Calls Try.prog 23 #[.slice A n c] w fun e w' => e = .returned (.tuple #[.int .i64 (if handB xs 5 5 = true then valL xs else 0), .bool (handB xs 5 5)]) ∧ Below w.heap.size w w' := by
  have H := hide (isHand_any A n c xs 5 5 w.heap.size w hR hn hnc (by omega) (by omega))
  cases hh : handB xs 5 5
  · rw [hh] at H
    clear hR
    go_enter Try.func23, Try.ntmps23
    go_wp2_with fail
    refine H.out.mono ?_
    rintro e w' ⟨rfl, rfl⟩
    go_wp2
    go_ret2
    exact ⟨rfl, Below.refl _ _⟩
  · obtain rfl : n = 5 := by have := hand_len hh; rw [hR.len] at this; omega
    obtain ⟨hnd, hrg⟩ := cards_nodup (hand_cards hh)
    have HLK := hide (valueOf_any A c xs w.heap.size w hR (Nat.le_refl _) hnd hrg)
    rw [hh] at H
    rw [if_pos rfl]
    generalize valL xs = K at *
    clear hR hnd hrg hh
    go_enter Try.func23, Try.ntmps23
    go_wp2_with (first | (go_at_call 53; refine H.out.mono ?_; rintro e w' ⟨rfl, rfl⟩) | (go_at_call 57; refine HLK.out.mono ?_; rintro e w2 ⟨rfl, hb2⟩))
    go_ret2
    exact ⟨rfl, hb2⟩

end Go.Proofs.Ytlldocdmjeeaaaa.hand
