/-
  Words by which a statement over lists of truth values is walked, and the contracts of the functions by which it copies, compares and marks them. Conditions: those of each theorem.
-/
import Derived.Test.YtlfffkjgepgcfaaMem2
namespace Go.Proofs.Ytlfffkjgepgcfaa.mem
open Go.RowKit
open base

theorem info_bool0 : (Try.prog.info? 4).map (fun i => (i.zero, i.size, i.bytes)) = some (some (.bool false), 1, 1) := by kernel_rfl
def paddedB (xs : List Bool) (k n : Nat) : List Bool := xs.take k ++ List.replicate (n - k) false
theorem paddedB_zero (xs : List Bool) (n : Nat) : paddedB xs 0 n = List.replicate n false := by simp [paddedB]
theorem paddedB_all (xs : List Bool) (n : Nat) (h : xs.length = n) : paddedB xs n n = xs := by subst h; simp [paddedB]
theorem paddedB_step (xs : List Bool) (k n : Nat) (h : xs.length = n) (hk : k < n) : (paddedB xs k n).set k (xs.getD k false) = paddedB xs (k + 1) n := by
  obtain ⟨m, hm⟩ : ∃ m, n - k = m + 1 := ⟨n - k - 1, by omega⟩
  have hx : k < xs.length := by omega
  have h1 : (xs.take k).length = k := by rw [List.length_take]; omega
  unfold paddedB
  rw [List.set_append_right _ _ (by omega), h1, Nat.sub_self, hm, show n - (k + 1) = m from by omega, List.replicate_succ, List.set_cons_zero,
    List.take_succ_eq_append_getElem hx, List.append_assoc]
  simp [List.getD, hx]

set_option maxHeartbeats 400000 in
theorem toBoolS_any (A : Option Addr) (n c : Nat) (xs : List Bool) (w : World) (hR : RdB w w.heap.size A n xs) (hn : n ≤ 1048576) :
    Calls Try.prog 37 #[.slice A n c] w fun e w' => ∃ A' c', e = .returned (.slice A' n c') ∧ OwnB w' w.heap.size A' n c' xs ∧ Below w.heap.size w w' := by
  obtain ⟨i0, hi, hz0, hz1, hz2⟩ := info_parts info_bool0
  have hz2' : i0.bytes * n ≤ 281474976710656 := by rw [hz2]; omega
  have HZ2 := hide hz2
  have HL := hide hR.len
  clear hz2
  go_enter Try.func37, Try.ntmps37
  go_wp2_with (at_make; refine wpList_make_full _ rfl (.tmp 6) (.tmp 6) 49 rfl w.heap.size 4 i0 (.bool false) 1 Try.underlying49 hi hz0 hz1 .i64 .i64 _ _ n rfl rfl rfl rfl hz2' (by unfold maxLen; omega) (Nat.le_refl _) ?_; intro w1 hown hgr)
  have hb1 : Below w.heap.size w w1 := (Below.refl _ _).grown hgr (Nat.le_refl _) (fun _ h => by cases h)
  have hown1 : OwnB w1 w.heap.size (some ⟨w.heap.size, 0, none⟩) n n (paddedB xs 0 n) := by
    unfold OwnB
    rw [paddedB_zero]
    simpa [Value.cells, toList_madeCells_one, bvs] using hown
  have hsz := hgr.size
  clear hown hgr hz2' hi hz0 hz1
  generalize hg : w.heap.size = g at *
  have HG := hide hg
  clear hg
  go_loopw [4] (fun i wr => ∃ k : Nat, k ≤ n ∧ i = .int .i64 k ∧ OwnB wr g (some ⟨g, 0, none⟩) n n (paddedB xs k n) ∧ Below g w wr) (fun i _ => n - (intOf i).toNat)
  case atStart => exact ⟨0, Nat.zero_le _, rfl, hown1, hb1⟩
  case round =>
    obtain ⟨k, hk, rfl, hown, hb⟩ := hrel
    by_cases hlt : k < n
    · obtain ⟨b, o, rfl, hbB, hc⟩ := (hR.below hb).at_ hlt
      have hc2 := World.ownsRow.cellAt (h := hown) k (by omega)
      rw [bvs_at _ _ (by rw [hown.len]; exact hlt)] at hc2
      have hf2 := World.ownsRow.frozenAt (h := hown) k
      have hst := World.ownsRow.stored (h := hown) k (.bool (xs.getD k false))
      rw [bvs_set, paddedB_step xs k n HL.out hlt] at hst
      generalize xs.getD k false = x at *
      generalize (paddedB xs k n).getD k false = y at *
      have HS := hide hst
      have hge : g ≤ wr.heap.size := by have := hb.size; rw [HG.out] at this; exact this
      clear hst hown
      go_wp2
      go_roundw
      case rel => exact ⟨k + 1, by omega, by go_num, HS.out.1, hb.grown HS.out.2 hge (fun j hj => by cases hj; exact Nat.le_refl _)⟩
      case measure => simp [intOf]; omega
    · obtain rfl : k = n := by omega
      go_wp2
      go_ret
      rw [paddedB_all xs k HL.out] at hown
      rw [HG.out]
      exact ⟨_, _, rfl, hown, hb⟩

/-! ### comparisons -/
def eqLB (xs ys : List Bool) : Bool := decide (xs = ys)
theorem eqLB_self (xs : List Bool) : eqLB xs xs = true := by simp [eqLB]
theorem eqLB_len {xs ys : List Bool} (h : xs.length ≠ ys.length) : eqLB xs ys = false := by
  unfold eqLB
  exact decide_eq_false (fun e => h (by rw [e]))
theorem eqLB_ne {xs ys : List Bool} {k : Nat} (h : xs.getD k false ≠ ys.getD k false) : eqLB xs ys = false := by
  unfold eqLB
  exact decide_eq_false (fun e => h (by rw [e]))
theorem take_stepB {xs ys : List Bool} {k : Nat} (hx : k < xs.length) (hy : k < ys.length) (h : xs.take k = ys.take k) (he : xs.getD k false = ys.getD k false) : xs.take (k + 1) = ys.take (k + 1) := by
  rw [List.take_succ_eq_append_getElem hx, List.take_succ_eq_append_getElem hy, h]
  simp [List.getD, hx, hy] at he
  rw [he]
theorem eqLB_all {xs ys : List Bool} {n : Nat} (hx : xs.length = n) (hy : ys.length = n) (h : xs.take n = ys.take n) : eqLB xs ys = true := by
  rw [List.take_of_length_le (by omega), List.take_of_length_le (by omega)] at h
  simp [eqLB, h]

set_option maxHeartbeats 400000 in
theorem eqBoolS_any (A A' : Option Addr) (n m c c' : Nat) (xs ys : List Bool) (w : World) (B B' : Nat) (hR : RdB w B A n xs) (hS : RdB w B' A' m ys) (hn : n ≤ 9223372036854775807) (hm : m ≤ 9223372036854775807) :
    Calls Try.prog 39 #[.slice A n c, .slice A' m c'] w fun e w' => e = .returned (.bool (eqLB xs ys)) ∧ ∃ q, w' = w.drewN q := by
  by_cases hne : n = m
  · subst hne
    have HX := hide hR.len
    have HY := hide hS.len
    generalize hE : eqLB xs ys = E
    have HE := hide hE
    clear hE
    go_enter Try.func39, Try.ntmps39
    go_wp2
    go_loopw [5] (fun i wr => ∃ k q : Nat, k ≤ n ∧ i = .int .i64 k ∧ Hid (xs.take k = ys.take k) ∧ Hid (wr = w.drewN q)) (fun i _ => n - (intOf i).toNat)
    case atStart => exact ⟨0, 0, Nat.zero_le _, rfl, rfl, rfl⟩
    case round =>
      obtain ⟨k, q, hk, rfl, ht, hw⟩ := hrel
      by_cases hlt : k < n
      · have hR' : RdB wr B A n xs := by rw [hw.out]; exact hR
        have hS' : RdB wr B' A' n ys := by rw [hw.out]; exact hS
        obtain ⟨b, o, rfl, hbB, hc⟩ := hR'.at_ hlt
        obtain ⟨b', o', rfl, hbB', hc'⟩ := hS'.at_ hlt
        have hlt' : (k : Int) < (n : Int) := by omega
        have h0 : (0 : Int) ≤ (k : Int) := by omega
        clear hR' hS'
        generalize hx : xs.getD k false = x at *
        generalize hy : ys.getD k false = y at *
        have HX' := hide hx
        have HY' := hide hy
        clear hx hy hR hS hbB hbB'
        by_cases hxy : x = y
        · subst hxy
          cases x
          all_goals
            go_wp2
            go_quiet (fail)
            go_wp2
            go_roundw
            case rel => exact ⟨k + 1, q + nq, by omega, by go_num, hide (take_stepB (by rw [HX.out]; exact hlt) (by rw [HY.out]; exact hlt) ht.out (HX'.out.trans HY'.out.symm)), hide (by rw [hw.out, World.drewN_drewN])⟩
            case measure => simp [intOf]; omega
        · have hb : (x != y) = true := by simpa using hxy
          have HF := hide (eqLB_ne (k := k) (xs := xs) (ys := ys) (by rw [HX'.out, HY'.out]; exact hxy))
          clear hb
          cases x <;> cases y
          all_goals first | exact absurd rfl hxy | skip
          all_goals
            clear hxy
            go_wp2
            go_quiet (fail)
            go_wp2
            go_ret
            exact ⟨by rw [← HE.out, HF.out]; rfl, q + nq, by rw [hw.out, World.drewN_drewN]⟩
      · obtain rfl : k = n := by omega
        go_wp2
        go_ret
        exact ⟨by rw [← HE.out, eqLB_all HX.out HY.out ht.out]; rfl, q, hw.out⟩
  · have hl : eqLB xs ys = false := eqLB_len (by rw [hR.len, hS.len]; exact hne)
    rw [hl]
    have hb : ((n : Int) != (m : Int)) = true := by rw [bne_iff_ne]; omega
    clear hR hS hl hne
    go_enter Try.func39, Try.ntmps39
    go_wp2
    go_ret
    exact ⟨rfl, 0, rfl⟩


set_option maxHeartbeats 400000 in
theorem markBoolS_any (A : Option Addr) (n c : Nat) (xs : List Bool) (w : World) (B : Nat) (hR : OwnB w B A n c xs) (k : Nat) (hn : n ≤ 1048576) (hk : k ≤ 200000000000000000) :
    Calls Try.prog 40 #[.slice A n c, .int .i64 k] w fun e w' => e = .returned (.int .i64 ((k + n : Nat) : Int)) ∧ (∃ ys, OwnB w' B A n c ys) ∧ w.grownBy w' (Value.slice A n c).ownBlock ∧ w'.heap.size = w.heap.size := by
  go_enter Try.func40, Try.ntmps40
  go_wp2
  go_loopw [1, 5] (fun kk i wr => ∃ (j : Nat) (ys : List Bool), j ≤ n ∧ i = .int .i64 j ∧ kk = .int .i64 ((k + j : Nat) : Int) ∧ OwnB wr B A n c ys ∧ w.grownBy wr (Value.slice A n c).ownBlock ∧ Hid (wr.heap.size = w.heap.size)) (fun _ i _ => n - (intOf i).toNat)
  case atStart => exact ⟨0, xs, Nat.zero_le _, rfl, rfl, hR, World.grownBy.refl w _, rfl⟩
  case round =>
    obtain ⟨j, ys, hj, rfl, rfl, hown, hg, hs⟩ := hrel
    by_cases hlt : j < n
    · obtain ⟨g, rfl, hB, hgs⟩ := hown.form (by omega)
      have hl := hown.len
      have hc2 := World.ownsRow.cellAt (h := hown) j (by omega)
      rw [bvs_at _ _ (by rw [hl]; exact hlt)] at hc2
      have hf2 := World.ownsRow.frozenAt (h := hown) j
      have hst := fun v => World.ownsRow.stored (h := hown) j (.bool v)
      obtain ⟨y, hy⟩ := ex_eq (ys.getD j false)
      rw [hy] at hc2
      have HS := hide hst
      have HG := hide hg
      clear hst hown hg hl hy
      obtain ⟨v, hv⟩ := ex_eq (((k : Int) + (j : Int)) % 3 == 0)
      have hst2 := HS.out v
      rw [bvs_set] at hst2
      have HT := hide hst2
      clear hst2
      go_wp2
      go_roundw
      case rel => exact ⟨j + 1, ys.set j v, by omega, by go_num, by go_num, HT.out.1, grown_trans HG.out HT.out.2, hide (by rw [← hs.out]; simp [World.setCell])⟩
      case measure => simp [intOf]; omega
    · obtain rfl : j = n := by omega
      go_wp2
      go_ret
      exact ⟨rfl, ⟨ys, hown⟩, hg, hs.out⟩
/-- the list lies in a block of its own, from lo on and below hi -/
def SegB (w : World) (lo hi : Nat) (A : Option Addr) (n c : Nat) (xs : List Bool) : Prop := OwnB w lo A n c xs ∧ ∀ k, (Value.slice A n c).ownBlock = some k → k < hi
section
variable {w w' : World} {lo hi B : Nat} {A : Option Addr} {n c : Nat} {xs : List Bool}
theorem SegB.of (h : OwnB w lo A n c xs) : SegB w lo w.heap.size A n c xs := ⟨h, fun k hk => (h.ownBlock k hk).2⟩
theorem SegB.len (h : SegB w lo hi A n c xs) : xs.length = n := h.1.len
theorem SegB.cap (h : SegB w lo hi A n c xs) : n ≤ c := by
  rcases h.1.2 with ⟨hv, h0⟩ | ⟨g, cap, cur, hv, _, _, hnc, _⟩
  · omega
  · injection hv with _ _ hc; omega
theorem SegB.rd (h : SegB w lo hi A n c xs) (hB : hi ≤ B) : RdB w B A n xs := by
  refine ⟨h.1.len, fun hn => ?_⟩
  obtain ⟨b, o, rfl, _, hc⟩ := h.1.rd.2 hn
  exact ⟨b, o, rfl, Nat.lt_of_lt_of_le (h.2 b rfl) hB, hc⟩
theorem SegB.below (h : SegB w lo hi A n c xs) (hb : Below B w w') (hB : hi ≤ B) : SegB w' lo hi A n c xs := by
  refine ⟨⟨h.1.1, ?_⟩, h.2⟩
  rcases h.1.2 with h0 | ⟨g, cap, cur, hv, hlo, hg, r⟩
  · exact .inl h0
  · refine .inr ⟨g, cap, cur, hv, hlo, ?_, r⟩
    have hgh : g < hi := h.2 g (by rw [hv]; rfl)
    rw [hb.block g (by omega)]
    exact hg
theorem SegB.grown (h : SegB w lo hi A n c xs) {row : Option Nat} (hg : w.grownBy w' row) (hr : ∀ k, row = some k → k < lo ∨ hi ≤ k) : SegB w' lo hi A n c xs := by
  refine ⟨World.ownsRow.kept h.1 hg ?_, h.2⟩
  cases hv : (Value.slice A n c).ownBlock with
  | none => exact .inl rfl
  | some k =>
    refine .inr fun e => ?_
    have h1 := h.1.ownBlock k hv
    have h2 := h.2 k hv
    rcases hr k e.symm with h3 | h3 <;> omega
end


/-- a slice of truth values that came in -/
def IsRowB (w : World) (a : Option Addr) (len cap : Nat) (zs : List Bool) : Prop := RdB w w.heap.size a len (zs.take len) ∧ len ≤ cap ∧ len ≤ 9223372036854775807
theorem rdB_of_row {w : World} {a : Option Addr} {len cap : Nat} {zs : List Bool} (h : IsRowB w a len cap zs) : RdB w w.heap.size a len (zs.take len) ∧ len ≤ cap ∧ len ≤ 9223372036854775807 := h
theorem isRowB_nil (w : World) : IsRowB w none 0 0 [] := ⟨RdB.nil, Nat.le_refl _, by omega⟩
theorem isRowB_mk {w : World} {x : Addr} {len cap : Nat} {B : Nat → Bool} (hl : len ≤ cap) (hm : cap ≤ maxLen) (hc : ∀ i, i < cap → w.cell? (x.add i) = some (.bool (B i))) : IsRowB w (some x) len cap ((List.range cap).map B) := by
  refine ⟨⟨by simp; omega, fun h0 => ?_⟩, hl, by unfold maxLen at hm; omega⟩
  obtain ⟨b, off, spot⟩ := x
  have hspot : spot = none := by simpa [Addr.add] using World.cell?_spot (hc 0 (by omega))
  subst hspot
  refine ⟨b, off, rfl, ?_, fun k hk => ?_⟩
  · rcases Nat.lt_or_ge b w.heap.size with hlt | hge
    · exact hlt
    · have h1 := hc 0 (by omega)
      rw [Go.WideShapes.add_plain] at h1
      simp [World.cell?, Array.getElem?_eq_none hge] at h1
  · have h1 := hc k (by omega)
    rw [Go.WideShapes.add_plain] at h1
    rw [h1]
    simp [List.getD, hk, show k < cap by omega]
theorem toB (A : Option Addr) (n c : Nat) (xs : List Bool) (w : World) (hR : RdB w w.heap.size A n xs) (hn : n ≤ 1048576) :
    Calls Try.prog 37 #[.slice A n c] w fun e w' => ∃ A' c', e = .returned (.slice A' n c') ∧ SegB w' w.heap.size w'.heap.size A' n c' xs ∧ Below w.heap.size w w' :=
  (toBoolS_any A n c xs w hR hn).mono fun _ _ ⟨A', c', he, ho, hb⟩ => ⟨A', c', he, SegB.of ho, hb⟩
theorem eqB (A A' : Option Addr) (n c c' : Nat) (xs : List Bool) (w : World) (hR : RdB w w.heap.size A n xs) (hS : RdB w w.heap.size A' n xs) (hn : n ≤ 1048576) :
    Calls Try.prog 39 #[.slice A n c, .slice A' n c'] w fun e w' => e = .returned (.bool true) ∧ Below w.heap.size w w' :=
  (eqBoolS_any A A' n n c c' xs xs w _ _ hR hS (by omega) (by omega)).mono fun _ _ ⟨he, q, hq⟩ => ⟨by rw [he, eqLB_self], by rw [hq]; exact below_drewN (Below.refl _ _) q⟩

theorem markB (A : Option Addr) (n c : Nat) (xs : List Bool) (w : World) (lo hi : Nat) (h : SegB w lo hi A n c xs) (hlo : lo ≤ w.heap.size) (k : Nat) (hn : n ≤ 1048576) (hk : k ≤ 100000000) :
    Calls Try.prog 40 #[.slice A n c, .int .i64 k] w fun e w' => e = .returned (.int .i64 ((k + n : Nat) : Int)) ∧ (∃ ys, SegB w' lo hi A n c ys) ∧
      (∃ row, w.grownBy w' row ∧ ∀ k, row = some k → lo ≤ k ∧ k < hi) ∧ Below lo w w' :=
  (markBoolS_any A n c xs w lo h.1 k (by omega) (by omega)).mono fun _ w' ⟨he, ⟨ys, ho⟩, hg, hs⟩ =>
    ⟨he, ⟨ys, ho, h.2⟩, ⟨_, hg, fun k hk => ⟨(h.1.ownBlock k hk).1, h.2 k hk⟩⟩,
      ⟨hg.os, hg.tape, hg.output, hg.size, fun k hk => hg.block k (by omega) (fun e => by have := (h.1.ownBlock k e.symm).1; omega)⟩⟩
end Go.Proofs.Ytlfffkjgepgcfaa.mem
