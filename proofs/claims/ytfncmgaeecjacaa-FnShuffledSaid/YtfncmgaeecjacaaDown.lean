/-
  A list whose window moves on, appended to; DownUnder. Conditions: those of each theorem.
-/
import Derived.Test.YtfncmgaeecjacaaApp
import Derived.Test.YtfncmgaeecjacaaDraw
import Derived.Deep.Upon
import Derived.Deep.RegionLaw
namespace Go.Proofs.Ytfncmgaeecjacaa.deck
open Go.RowKit
open base mem

/-- the slice (b, o), of n elements and room for c, is a window in a block of the call's own -/
structure Win (w : World) (B b o n c : Nat) (xs : List Int) : Prop where
  box : ∃ cur, w.heap[b]? = some (.cells cur 2 (0, 0)) ∧ cur.size = o + c ∧ ∀ k, k < n → cur[o + k]? = some (.int .i64 (xs.getD k 0))
  len : xs.length = n
  le : n ≤ c
  max : c ≤ maxLen
  low : B ≤ b
section
variable {w w' : World} {B b o n c : Nat} {xs : List Int}
theorem Win.lt (h : Win w B b o n c xs) : b < w.heap.size := by
  obtain ⟨cur, h1, _⟩ := h.box
  exact (Array.getElem?_eq_some_iff.1 h1).1
theorem Win.cell (h : Win w B b o n c xs) {k : Nat} (hk : k < n) : w.cell? ⟨b, o + k, none⟩ = some (.int .i64 (xs.getD k 0)) := by
  obtain ⟨cur, h1, _, h3⟩ := h.box
  rw [cell_of_row w b (o + k) cur 2 (0, 0) h1, h3 k hk]
theorem Win.drewN (h : Win w B b o n c xs) (q : Nat) : Win (w.drewN q) B b o n c xs := ⟨h.box, h.len, h.le, h.max, h.low⟩
theorem Win.alloc (h : Win w B b o n c xs) (O : Obj) : Win (w.alloc O) B b o n c xs := by
  obtain ⟨cur, h1, h2, h3⟩ := h.box
  exact ⟨⟨cur, (Below.heap_alloc w O b h.lt).trans h1, h2, h3⟩, h.len, h.le, h.max, h.low⟩
theorem Win.kept (h : Win w B b o n c xs) {row : Option Nat} (hg : w.grownBy w' row) (hne : some b ≠ row) : Win w' B b o n c xs := by
  obtain ⟨cur, h1, h2, h3⟩ := h.box
  exact ⟨⟨cur, (hg.block b h.lt hne).trans h1, h2, h3⟩, h.len, h.le, h.max, h.low⟩
theorem Win.tail {x : Int} (h : Win w B b o (n + 1) c (x :: xs)) : Win w B b (o + 1) n (c - 1) xs := by
  obtain ⟨cur, h1, h2, h3⟩ := h.box
  have hle := h.le
  refine ⟨⟨cur, h1, by omega, fun k hk => ?_⟩, by have := h.len; simpa using this, by omega, by have := h.max; omega, h.low⟩
  rw [show o + 1 + k = o + (k + 1) by omega, h3 (k + 1) (by omega)]
  rfl
theorem Win.of {A : Option Addr} (h : Own w B A n c xs) (hn : 0 < n) : ∃ b, A = some ⟨b, 0, none⟩ ∧ Win w B b 0 n c xs := by
  have hl := h.len
  rcases h.2 with ⟨_, h0⟩ | ⟨g, cap, cur, hv, hb, hg, hnc, hcm, hcs, htake⟩
  · omega
  · injection hv with e1 e2 e3
    subst e3
    refine ⟨g, e1, ⟨cur, hg, by omega, fun k hk => ?_⟩, hl, hnc, hcm, hb⟩
    have hk2 : (cur.toList.take (n * 1))[k]? = cur.toList[k]? := List.getElem?_take_of_lt (by omega)
    rw [htake, ivs_at _ _ (by omega)] at hk2
    rw [Nat.zero_add, ← Array.getElem?_toList, ← hk2]
end
theorem run_appW {w : World} {B b o n c : Nat} {xs : List Int} (ty : TypeId) (h : Win w B b o n c xs) (a : Addr) (x : Int) (hx : w.cell? (a.add 0) = some (.int .i64 x)) (hn : n ≤ 1000000) (hB : B ≤ w.heap.size) (hc0 : 0 < c ∨ 0 < n) :
    ∃ b' o' c' w', (Builtin.append_ #[22, 22] ty #[.slice (some ⟨b, o, none⟩) n c, .slice (some a) 1 1]).run Try.prog w = .ok (.slice (some ⟨b', o', none⟩) (n + 1) c') w' ∧ Win w' B b' o' (n + 1) c' (xs ++ [x]) ∧ w.grownBy w' (some b) ∧ (b' = b ∨ b' = w.heap.size) := by
  obtain ⟨i0, hi, hz0, hz1, hz2⟩ := info_parts info_int64
  have hs : Src Try.prog i0.size 22 (.slice (some a) 1 1) 1 [.int .i64 x] w := Src.ofSlice (w := w) Try.underlying22 a 1 1 [.int .i64 x] (by rw [hz1]; rfl) (by
    intro j u hj
    cases j with
    | zero => simp at hj; subst hj; exact hx
    | succ j => simp at hj) (by intro u hu; simp at hu; subst hu; rfl)
  obtain ⟨cur, h1, h2, h3⟩ := h.box
  have hl := h.len
  have happ : ∀ k, k < n + 1 → (xs ++ [x]).getD k 0 = if k = n then x else xs.getD k 0 := fun k hk => by
    by_cases e : k = n
    · rw [if_pos e, e, ← hl]; simp [List.getD]
    · rw [if_neg e]; simp [List.getD, List.getElem?_append_left (show k < xs.length by omega)]
  by_cases hr : n + 1 ≤ c
  · have hcell : ∀ j, j < ([Value.int .i64 x]).length → (w.cell? ⟨b, o + n * i0.size + j, none⟩).isSome = true := fun j hj => by
      obtain rfl : j = 0 := by simpa using hj
      rw [hz1, Nat.mul_one, Nat.add_zero, cell_of_row w b (o + n) cur 2 (0, 0) h1, Array.getElem?_eq_getElem (by omega)]
      rfl
    have hfr : ∀ j, j < ([Value.int .i64 x]).length → w.frozen? ⟨b, o + n * i0.size + j, none⟩ = false := fun j _ => frozen_of_row w b _ cur 2 h1
    have hrun := run_append_room_src (P := Try.prog) w 22 22 ty 2 i0 Try.underlying22 hi b o n c _ 1 _ hs hr hcell hfr
    rw [hz1, Nat.mul_one] at hrun
    refine ⟨b, o, c, _, hrun, ⟨⟨cur.setIfInBounds (o + n) (.int .i64 x), heap_setCell_same w b (o + n) cur 2 _ h1, by simpa using h2, fun k hk => ?_⟩, by simp [hl], hr, h.max, h.low⟩, ?_, .inl rfl⟩
    · rw [happ k hk]
      by_cases e : k = n
      · subst e
        rw [if_pos rfl, Array.getElem?_setIfInBounds_self_of_lt (by omega)]
      · rw [if_neg e, Array.getElem?_setIfInBounds_ne (by omega), h3 k (by omega)]
    · refine ⟨rfl, rfl, rfl, by simp [World.setCells], fun k hk hne => ?_⟩
      exact heap_setCell_other w ⟨b, o + n, none⟩ k _ (fun e => hne (by rw [e]))
  · have hle := h.le
    have hold : (Builtin.firstCells i0.size n (.slice (some ⟨b, o, none⟩) n c)).run Try.prog w.drew = .ok (ivs xs).toArray w.drew := by
      refine run_firstCells_some w.drew i0.size n ⟨b, o, none⟩ n c (ivs xs) (by rw [ivs_len, hz1, hl, Nat.mul_one]) (fun j u hj => ?_)
      have hjn : j < n := by
        have := (List.getElem?_eq_some_iff.1 hj).1
        rw [ivs_len, hl] at this
        exact this
      rw [ivs_at _ _ (by omega)] at hj
      rw [Go.WideShapes.add_plain]
      exact (h.cell hjn).trans hj
    have hgf : Builtin.nextslicecap (n + 1) c * i0.bytes ≤ 281474976710656 := growslice_fits (by omega) (by rw [hz2]; omega)
    have hrun := run_append_grow_src (P := Try.prog) w 22 22 ty 2 i0 (.int .i64 0) Try.underlying22 hi hz0 (some ⟨b, o, none⟩) n c (ivs xs) hold _ 1 _ hs (by omega) (by omega) hgf
    have hge := grownCap_ge w (n + 1) c 2
    have hcm := grownCap_le_maxLen w (n + 1) c 2 (by unfold maxLen; omega)
    refine ⟨w.heap.size, 0, _, _, hrun, ⟨⟨_, heap_alloc_new w.drew _, ?_, fun k hk => ?_⟩, by simp [hl], hge, hcm, hB⟩, ?_, .inr rfl⟩
    · simp only [Array.size_append, List.size_toArray, List.length_append, ivs_len, hl, List.length_singleton]
      rw [size_zeroCells, show (Value.int .i64 0).cells.size = 1 from rfl]
      omega
    · rw [happ k hk, Nat.zero_add, Array.getElem?_append_left (by simp [ivs_len, hl]; omega), List.getElem?_toArray]
      by_cases e : k = n
      · subst e
        rw [if_pos rfl, List.getElem?_append_right (by rw [ivs_len]; omega), ivs_len, hl, Nat.sub_self]
        rfl
      · rw [if_neg e, List.getElem?_append_left (by rw [ivs_len]; omega), ivs_at _ _ (by omega)]
    · exact ⟨rfl, rfl, rfl, by simp, fun k hk _ => Below.heap_alloc w.drew _ k hk⟩

theorem wp_appW {w : World} {o : Oper} {a : Act} {K : Act → World → Prop} {Q : Exit → Act → World → Prop} (s x : Operand)
    (ho : o.op = .call { callee := .builtin .append, args := #[s, x], argTypes := #[22, 22] }) (B b off n c : Nat) (xs : List Int) (hs : a.eval s = .slice (some ⟨b, off, none⟩) n c) (hW : Win w B b off n c xs)
    (ad : Addr) (xv : Int) (hx : a.eval x = .slice (some ad) 1 1) (hc : w.cell? (ad.add 0) = some (.int .i64 xv)) (hn : n ≤ 1000000) (hB : B ≤ w.heap.size) (h0 : 0 < c ∨ 0 < n)
    (h : ∀ b' o' c' w', Win w' B b' o' (n + 1) c' (xs ++ [xv]) → w.grownBy w' (some b) → (b' = b ∨ b' = w.heap.size) → K (a.put o.dst (.slice (some ⟨b', o', none⟩) (n + 1) c')) w') : o.wp Try.prog a w K Q := by
  obtain ⟨b', o', c', w', hr, h2, h3, h5⟩ := run_appW (w := w) o.type hW ad xv hc hn hB h0
  unfold Oper.wp execOp
  simp only [ho, resolve, invoke, builtin, Sem.run_bind, Sem.run_pure, Result.andThen_ok, List.map_toArray, List.map_cons, List.map_nil, hs, hx, hr]
  exact h b' o' c' w' h2 h3 h5
theorem step_appW {w : World} {ops : Array Oper} {o : Oper} {a : Act} {K : Act → World → Prop} {Q : Exit → Act → World → Prop} {E : Prop} (hgd : o.guard = none) (s x : Operand)
    (ho : o.op = .call { callee := .builtin .append, args := #[s, x], argTypes := #[22, 22] }) (B b off n c : Nat) (xs : List Int) (hs : a.eval s = .slice (some ⟨b, off, none⟩) n c) (hW : Win w B b off n c xs)
    (ad : Addr) (xv : Int) (hx : a.eval x = .slice (some ad) 1 1) (hc : w.cell? (ad.add 0) = some (.int .i64 xv)) (hn : n ≤ 1000000) (hB : B ≤ w.heap.size) (h0 : 0 < c ∨ 0 < n)
    (h : ∀ b' o' c' w', Win w' B b' o' (n + 1) c' (xs ++ [xv]) → w.grownBy w' (some b) → (b' = b ∨ b' = w.heap.size) → K (a.put o.dst (.slice (some ⟨b', o', none⟩) (n + 1) c')) w') :
    if Region.wanted o (yielded ops a.tmps) = true then Oper.wp Try.prog o a w K Q else E := by
  have hw : Region.wanted o (yielded ops a.tmps) = true := by simp [Region.wanted, hgd]
  rw [if_pos hw]
  exact wp_appW s x ho B b off n c xs hs hW ad xv hx hc hn hB h0 h

/-! ### DownUnder -/
def rotL : List Int → List Int
  | y :: z :: r => (z :: r) ++ [y]
  | d => d
def duT : Nat → List Int → List Int → List Int
  | 0, _, os => os
  | _ + 1, [], os => os
  | f + 1, x :: d, os => duT f (rotL d) (os ++ [x])
theorem rotL_len (d : List Int) : (rotL d).length = d.length := by
  cases d with
  | nil => rfl
  | cons y d => cases d with
    | nil => rfl
    | cons z r => simp [rotL]
theorem rotL_short {d : List Int} (h : d.length ≤ 1) : rotL d = d := by
  cases d with
  | nil => rfl
  | cons y d => cases d with
    | nil => rfl
    | cons z r => simp at h
theorem duT_len : ∀ (f : Nat) (d os : List Int), d.length = f → (duT f d os).length = f + os.length
  | 0, d, os, h => by simp [duT]
  | f + 1, [], os, h => by simp at h
  | f + 1, x :: d, os, h => by
    rw [duT, duT_len f _ _ (by rw [rotL_len]; simpa using h)]
    simp
    omega
def duL (n : Nat) : List Int := duT n (news n) []
theorem duL_len (n : Nat) : (duL n).length = n := by unfold duL; rw [duT_len n _ _ (news_len n)]; rfl
/-- the loop: a window and a list that is made -/
structure DU (w0 w : World) (v4 v6 : Value) (k : Nat) (d os : List Int) : Prop where
  out : Lst w w0.heap.size v6 os
  dl : d.length = k
  win : (0 < k → ∃ b o c, v4 = .slice (some ⟨b, o, none⟩) k c ∧ Win w w0.heap.size b o k c d ∧ v6.ownBlock ≠ some b) ∧ (k = 0 → ∃ a c, v4 = .slice a 0 c)
  low : Below w0.heap.size w0 w
def lenW : Value → Nat
  | .slice _ n _ => n
  | _ => 0
theorem NewDeck_any (n : Nat) (w : World) (h1 : 1 ≤ n) (h2 : n ≤ 52) : Calls Try.prog 63 #[.int .i64 (n : Int)] w fun e w' => ∃ A' c', e = .returned (.tuple #[.slice A' n c', .bool true]) ∧ Own w' w.heap.size A' n c' (news n) ∧ Below w.heap.size w w' := by
  have i1 := inB_mk (show (1 : Int) ≤ (n : Int) by omega) (show (n : Int) ≤ 52 by omega)
  have HN := hide (newDeck_any n w (by omega))
  go_enter Try.func63, Try.ntmps63
  go_wp2_with (first | (go_at_call 69; refine (within_any _ _ _ _).mono ?_; rintro e w' ⟨rfl, rfl⟩) | (go_at_call 82; refine HN.out.mono ?_; rintro e w' ⟨A1, c1, rfl, ho, hb⟩))
  have HO := hide ho
  have HB := hide hb
  clear ho hb
  go_ret2
  exact ⟨A1, c1, rfl, HO.out, HB.out⟩

set_option maxRecDepth 20000 in
set_option maxHeartbeats 4000000 in
theorem DownUnder_any (n : Nat) (w : World) (h1 : 1 ≤ n) (h2 : n ≤ 52) : Calls Try.prog 66 #[.int .i64 (n : Int)] w fun e w' => ∃ A' c', e = .returned (.tuple #[.slice A' n c', .bool true]) ∧ Own w' w.heap.size A' n c' (duL n) ∧ Below w.heap.size w w' := by
  have HN := hide (NewDeck_any n w h1 h2)
  have hdl := duL_len n
  have hdu : duT n (news n) [] = duL n := rfl
  obtain ⟨R, hR⟩ := ex_eq (duL n)
  rw [hR] at hdl hdu ⊢
  have HDU := hide hdu
  have HDL := hide hdl
  clear hR hdl hdu
  go_enter Try.func66, Try.ntmps66
  go_upto_region 2 with (go_at_call 63; refine HN.out.mono ?_; rintro e w1 ⟨A4, c4, rfl, ho, hb⟩)
  obtain ⟨b4, rfl, hw4⟩ := Win.of ho (by omega)
  have HW := hide hw4
  have HB := hide hb
  clear ho hb hw4 HN
  go_wp2
  have HD0 := hide (show DU w (w1.alloc (.cells #[] 2)) (.slice (some ⟨b4, 0, none⟩) n c4) (.slice (some ⟨w1.heap.size, 0, none⟩) 0 0) n (news n) [] from
    ⟨Lst.new w1 HB.out.size, news_len n, ⟨fun _ => ⟨b4, 0, c4, rfl, HW.out.alloc _, by have := HW.out.lt; simp [Value.ownBlock]; omega⟩, fun h => by omega⟩, HB.out.alloc HB.out.size _⟩)
  go_loopw [4, 6] (fun v4 v6 wr => ∃ (k : Nat) (d os : List Int), k ≤ n ∧ lenW v4 = k ∧ DU w wr v4 v6 k d os ∧ Hid (duT k d os = R)) (fun v4 _ _ => lenW v4)
  case atStart => exact ⟨n, news n, [], Nat.le_refl _, rfl, HD0.out, HDU⟩
  case round =>
    obtain ⟨k, d, os, hk, hlw, hD, hU⟩ := hrel
    have hol : os.length + k = n := by
      have := HDL.out
      rw [← hU.out, duT_len k d os hD.dl] at this
      omega
    by_cases hlt : 0 < k
    · obtain ⟨b, o, c, rfl, hW, hS⟩ := hD.win.1 hlt
      obtain ⟨x, d1, rfl⟩ : ∃ x d1, d = x :: d1 := by
        cases d with
        | nil => have := hD.dl; simp at this; omega
        | cons x d1 => exact ⟨x, d1, rfl⟩
      obtain ⟨k1, rfl⟩ : ∃ k1, k = k1 + 1 := ⟨k - 1, by omega⟩
      have hc0 := hW.cell (k := 0) (by omega)
      rw [show (x :: d1).getD 0 0 = x from rfl, Nat.add_zero] at hc0
      have hzr := hD.low.size
      have HOut := hide hD.out
      have HLow := hide hD.low
      have HWin := hide hW
      have HS := hide hS
      have hd1 : d1.length = k1 := by have := hD.dl; simpa using this
      have HUs := hide (show duT k1 (rotL d1) (os ++ [x]) = R from hU.out)
      clear hD hW hS hU hlw
      have hcle := HWin.out.le
      have hcm := HWin.out.max
      have hcm2 : c ≤ 9223372036854775807 := by unfold maxLen at hcm; omega
      go_upto_region 7 with (at_builtin; refine wpList_app rfl (.tmp 18) (.tmp 22) rfl w.heap.size _ os [x] rfl (HOut.out.alloc _) (some ⟨wr.heap.size, 0, none⟩) 1 1 rfl (rd_one wr x 2) (fun h => by cases h) (by omega) (by simp; omega) ?_; intro v7 w7 ho7 hg7 hk7)
      have hblt := HWin.out.lt
      have HW7 := hide ((HWin.out.alloc (.cells #[.int .i64 x] 2)).kept hg7 (fun e => HS.out e.symm)).tail
      have HB7 := hide ((HLow.out.alloc hzr (.cells #[.int .i64 x] 2)).trans (Lst.grown (HOut.out.alloc _) hg7 (by simp; omega)))
      have HS7 := hide (show v7.ownBlock ≠ some b by
        rcases hk7 with e | e
        · rw [e]; exact HS.out
        · rw [e]; intro e2; have := Option.some.inj e2; simp at this; omega)
      have HO7 := hide ho7
      have hz7 := HB7.out.size
      clear ho7 hg7 hk7 HOut HLow HWin HS hc0
      have t1 : ((k1 + 1 : Nat) : Int) - 1 = (k1 : Int) := by omega
      by_cases hk2 : 1 < k1
      · obtain ⟨y, z, r, rfl⟩ : ∃ y z r, d1 = y :: z :: r := by
          cases d1 with
          | nil => simp at hd1; omega
          | cons y d2 => cases d2 with
            | nil => simp at hd1; omega
            | cons z r => exact ⟨y, z, r, rfl⟩
        have hcy := HW7.out.cell (k := 0) (by omega)
        rw [show (y :: z :: r).getD 0 0 = y from rfl, Nat.add_zero] at hcy
        have hcn : ¬ c = 1 := by omega
        have hcn2 : ¬ c - 1 = 1 := by omega
        obtain ⟨k2, rfl⟩ : ∃ k2, k1 = k2 + 1 := ⟨k1 - 1, by omega⟩
        have t2 : ((k2 + 1 : Nat) : Int) - 1 = (k2 : Int) := by omega
        have HW9 := hide ((HW7.out.tail.alloc (.cells #[.int .i64 y] 2)).drewN 1)
        have hc9 := hide (show ((w7.alloc (.cells #[.int .i64 y] 2)).drewN 1).cell? ((⟨w7.heap.size, 0, none⟩ : Addr).add 0) = some (.int .i64 y) from cell_one_new w7 (.int .i64 y) 2 0 _ rfl)
        have hrl : (z :: r).length = k2 := by simpa using hd1
        have hle1 : (1 : Int) ≤ (k2 : Int) + 1 := by omega
        go_upto_region 9 with fail
        go_region_law (refine step_appW rfl (.tmp 30) (.tmp 34) rfl w.heap.size b (o + 1 + 1) k2 (c - 1 - 1) (z :: r) rfl HW9.out ⟨w7.heap.size, 0, none⟩ y rfl hc9.out (by omega) (by simp; omega) (by omega) ?_; intro b' o' c' w9 hw9 hg9 hk9)
        have HO9 := hide (((HO7.out.alloc (.cells #[.int .i64 y] 2)).drewN 1).kept hg9 (.inr HS7.out))
        have HB9 := hide ((below_drewN (HB7.out.alloc hz7 (.cells #[.int .i64 y] 2)) 1).grown hg9 (by simp; omega) (fun q hq => by have := Option.some.inj hq; have := HW7.out.low; omega))
        have HS9 := hide (show v7.ownBlock ≠ some b' by
          rcases hk9 with e | e
          · rw [e]; exact HS7.out
          · intro e2
            have h3 := (HO7.out.blk _ e2).2
            simp at e
            omega)
        have HW99 := hide hw9
        clear hw9 hg9 hk9 HW9 HW7 HB7 HS7 HO7 hc9 hcy
        simp only [Act.put, List.getElem_toArray, List.getElem_cons_succ, List.getElem_cons_zero, List.setIfInBounds_toArray, List.set_cons_succ, List.set_cons_zero]
        go_wp2
        go_roundw
        case rel => exact ⟨k2 + 1, (z :: r) ++ [y], os ++ [x], by omega, rfl, ⟨HO9.out, by simp at hrl; simp; omega, ⟨fun _ => ⟨b', o', c', rfl, HW99.out, HS9.out⟩, fun h => by omega⟩, HB9.out⟩, HUs⟩
        case measure => simp [lenW]
      · have hr1 : rotL d1 = d1 := rotL_short (by omega)
        rw [hr1] at HUs
        go_wp2
        go_roundw
        case rel =>
          refine ⟨k1, d1, os ++ [x], by omega, rfl, ⟨HO7.out, hd1, ⟨fun h => ?_, fun h => ?_⟩, HB7.out⟩, HUs⟩
          · rw [if_neg (show ¬ c = 1 by omega)]
            exact ⟨b, o + 1, c - 1, rfl, HW7.out, HS7.out⟩
          · subst h
            exact ⟨_, _, rfl⟩
        case measure => simp [lenW]
    · obtain rfl : k = 0 := by omega
      obtain ⟨a, c, rfl⟩ := hD.win.2 rfl
      obtain ⟨A6, c6, rfl, ho6⟩ := hD.out.formn (show os.length = n by omega)
      have hos : os = R := by
        have h := hU.out
        cases d <;> exact h
      have HO := hide ho6
      have HL := hide hD.low
      clear hD ho6 hU
      go_wp2
      go_ret2
      exact ⟨A6, c6, rfl, by rw [← hos]; exact HO.out, HL.out⟩

end Go.Proofs.Ytfncmgaeecjacaa.deck
