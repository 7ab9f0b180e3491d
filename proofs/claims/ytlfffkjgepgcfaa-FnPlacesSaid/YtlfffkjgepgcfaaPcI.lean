/-
  The program's PlaceChances answers what Pl tells. Conditions: those of each theorem.
-/
import Derived.Test.YtlfffkjgepgcfaaPlI
import Derived.Test.YtlfffkjgepgcfaaConF
import Derived.Test.YtlfffkjgepgcfaaPcS
namespace Go.Proofs.Ytlfffkjgepgcfaa.pl
open Go.RowKit
open base mem fl chance Go.Maps
open Ieee

/-! ### no program in sight -/
theorem sumL_congr {xs : List Int} {L L' : Nat → Bool} : ∀ m, (∀ k, k < m → L k = L' k) → sumL xs L m = sumL xs L' m
  | 0, _ => rfl
  | m + 1, h => by
    show sumL xs L m + _ = sumL xs L' m + _
    rw [sumL_congr m (fun k hk => h k (by omega)), h m (by omega)]
theorem cntL_congr {L L' : Nat → Bool} : ∀ m, (∀ k, k < m → L k = L' k) → cntL L m = cntL L' m
  | 0, _ => rfl
  | m + 1, h => by
    show cntL L m + _ = cntL L' m + _
    rw [cntL_congr m (fun k hk => h k (by omega)), h m (by omega)]
theorem accL_congr {L L' : Nat → Bool} {i : Nat} {q q' p p' : Nat → Nat} : ∀ m, (∀ k, k < m → L k = L' k ∧ q k = q' k ∧ p k = p' k) → accL L i q p m = accL L' i q' p' m
  | 0, _ => rfl
  | m + 1, h => by
    obtain ⟨h1, h2, h3⟩ := h m (by omega)
    show (if _ then _ else _) = (if _ then _ else _)
    rw [accL_congr m (fun k hk => h k (by omega)), h1, h2, h3]
theorem PL_congr {xs : List Int} : ∀ (k : Nat) (L L' : Nat → Bool) (i : Nat), (∀ j, j < xs.length → L j = L' j) → PL xs k L i = PL xs k L' i
  | 0, L, L', i, h => by
    show qL xs L i = qL xs L' i
    unfold qL
    rw [sumL_congr _ h]
  | k + 1, L, L', i, h => by
    show accL _ _ _ _ _ = accL _ _ _ _ _
    refine accL_congr _ fun j hj => ⟨h j hj, by unfold qL; rw [sumL_congr _ h], PL_congr k _ _ i fun l hl => ?_⟩
    unfold rm
    rw [h l hl]
theorem full_bits : ∀ n, n ≤ 6 → ∀ k, k < n → bitL (2 ^ n - 1) k = true := by
  intro n _ k hk
  unfold bitL
  rw [Nat.testBit_two_pow_sub_one]
  exact decide_eq_true hk
theorem full_lt {n : Nat} (h : n ≤ 6) : 2 ^ n - 1 < 64 := by
  have : 2 ^ n ≤ 2 ^ 6 := Nat.pow_le_pow_right (by omega) h
  have := Nat.two_pow_pos n
  omega
/-- the rows of all seats -/
theorem plc_rows {w : World} {X : Nat → Prop} {xs : List Int} {n : Nat} {A : Option Addr} (hn : xs.length = n) (h6 : n ≤ 6) (h : Plc w X xs n (2 ^ n - 1) A) :
    ∃ ts, RdSF w w.heap.size A n ts ∧ ∀ i, i < n → ∃ t, ts[i]? = some t ∧ t.n = n ∧ t.xs = plRow xs i n := by
  obtain ⟨g, rfl, _, hg, _, hr⟩ := h
  have hc : cntL (bitL (2 ^ n - 1)) n = n := by
    rw [cntL_congr (L' := allL) n (fun k hk => by rw [full_bits n h6 k hk]; rfl), cnt_all]
  rw [hc] at hr
  have hx : ∀ m, m ≤ n → ∃ ts : List SlF, ts.length = m ∧ ∀ i, i < m → ∃ t, ts[i]? = some t ∧ t.n = n ∧ t.xs = plRow xs i n ∧ t.ok w w.heap.size ∧ w.cell? ⟨g, i, none⟩ = some t.val := by
    intro m
    induction m with
    | zero => exact fun _ => ⟨[], rfl, fun i hi => absurd hi (Nat.not_lt_zero i)⟩
    | succ m ih =>
      intro hm
      obtain ⟨ts, h1, h2⟩ := ih (by omega)
      obtain ⟨r, _, r1, r2, r3⟩ := hr m (by omega) (full_bits n h6 m (by omega))
      refine ⟨ts ++ [⟨some ⟨r, 0, none⟩, n, n, plRow xs m n⟩], by simp [h1], fun i hi => ?_⟩
      rcases Nat.lt_succ_iff_lt_or_eq.1 hi with h | h
      · obtain ⟨t, t1, t2⟩ := h2 i h
        exact ⟨t, by rw [List.getElem?_append_left (by omega)]; exact t1, t2⟩
      · subst h
        refine ⟨⟨some ⟨r, 0, none⟩, n, n, plRow xs i n⟩, by rw [List.getElem?_append_right (by omega), h1]; simp, rfl, rfl, ⟨⟨plRow_len _ _ _, fun _ => ⟨r, 0, rfl, r1, fun k hk => ?_⟩⟩, Nat.le_refl _, fun h => by cases h⟩, r2⟩
        rw [Nat.zero_add, r3 k hk, plRow_at hk]
        rw [PL_congr k _ allL i (fun j hj => by rw [full_bits n h6 j (by omega)]; rfl)]
  obtain ⟨ts, h1, h2⟩ := hx n (Nat.le_refl _)
  refine ⟨ts, ⟨h1, fun t ht => ?_, fun _ => ⟨g, 0, rfl, hg, fun i t ht => ?_⟩⟩, fun i hi => ?_⟩
  · obtain ⟨i, hi⟩ := List.mem_iff_getElem?.1 ht
    have hlt : i < n := by rw [← h1]; exact (List.getElem?_eq_some_iff.1 hi).1
    obtain ⟨t', t1, _, _, t4, _⟩ := h2 i hlt
    rw [hi] at t1
    cases t1
    exact t4
  · have hlt : i < n := by rw [← h1]; exact (List.getElem?_eq_some_iff.1 ht).1
    obtain ⟨t', t1, _, _, _, t5⟩ := h2 i hlt
    rw [ht] at t1
    cases t1
    rw [Nat.zero_add]; exact t5
  · obtain ⟨t', t1, t2, t3, _⟩ := h2 i hi
    exact ⟨t', t1, t2, t3⟩
theorem cat_all {xs : List Int} {n : Nat} (hn : xs.length = n) {ts : List SlF} (h : ∀ i, i < n → ∃ t, ts[i]? = some t ∧ t.n = n ∧ t.xs = plRow xs i n) : ∀ m, m ≤ n → catToF ts m = plAll xs m
  | 0, _ => rfl
  | m + 1, hm => by
    obtain ⟨t, t1, _, t3⟩ := h m (by omega)
    rw [catToF_at t1, cat_all hn h m (by omega), plAll_succ, t3, hn]
/-! ### the program -/
theorem places_any (xs : List Int) (g : Good xs) (mb b o n c : Nat) (hn : xs.length = n) : ∀ s, s < 64 → PlacesC xs mb b o n c s := by
  intro s
  induction s using Nat.strongRecOn with
  | ind s ih => exact fun hs => places_step xs g mb b o n c hn s hs fun t ht => ih t ht (by omega)
/-- placesOf, asked for all seats with a map just made -/
theorem placesAll_raw (xs : List Int) (g : Good xs) (b o n c : Nat) (hn : xs.length = n) (h1 : 1 ≤ n) (w : World) (hR : Rd w w.heap.size (some ⟨b, o, none⟩) n xs) :
    Calls Try.prog 66 #[.slice (some ⟨b, o, none⟩) n c, .int .i64 ((2 ^ n - 1 : Nat) : Int), .map (some w.heap.size)] (w.alloc (.map #[] 0)) fun e w' =>
      ∃ A, e = .returned (.slice A n n) ∧ Plc w' (fun q => q < w.heap.size + 1) xs n (2 ^ n - 1) A ∧ Below w.heap.size w w' := by
  have h6 := g.few
  rw [hn] at h6
  obtain ⟨b', o', e, hb, hc⟩ := hR.2 (by omega)
  obtain ⟨rfl, rfl⟩ : b = b' ∧ o = o' := by simpa using e
  have hsz : (w.alloc (.map #[] 0)).heap.size = w.heap.size + 1 := by simp
  refine (places_any xs g w.heap.size b o n c hn _ (full_lt h6) (w.alloc (.map #[] 0)) (fun q => q < w.heap.size + 1) (.map []) (fun q hq => by rw [hsz]; exact hq) (by show w.heap.size < w.heap.size + 1; omega) (by omega) (by omega)
    (fun k hk => by rw [World.cell?_alloc_lt w _ _ hb]; exact hc k hk) (Mp.made w) (Ent.nil _ _ _ _)).mono ?_
  rintro e w' ⟨A, D', he, hP, hg, _, _⟩
  exact ⟨A, he, hP, ((Below.refl w.heap.size w).alloc (Nat.le_refl _) _).grown hg (by rw [hsz]; omega) (fun q hq => by cases hq; exact Nat.le_refl _)⟩
theorem placesAll_any (xs : List Int) (g : Good xs) (b o n c : Nat) (hn : xs.length = n) (h1 : 1 ≤ n) (w : World) (hR : Rd w w.heap.size (some ⟨b, o, none⟩) n xs) :
    Calls Try.prog 66 #[.slice (some ⟨b, o, none⟩) n c, .int .i64 ((2 ^ n - 1 : Nat) : Int), .map (some w.heap.size)] (w.alloc (.map #[] 0)) fun e w' =>
      ∃ A ts, e = .returned (.slice A n n) ∧ RdSF w' w'.heap.size A n ts ∧ (∀ i, i < n → ∃ t, ts[i]? = some t ∧ t.n = n ∧ t.xs = plRow xs i n) ∧ Below w.heap.size w w' := by
  have h6 := g.few
  rw [hn] at h6
  refine (placesAll_raw xs g b o n c hn h1 w hR).mono ?_
  rintro e w' ⟨A, he, hP, hb⟩
  obtain ⟨ts, h2, h3⟩ := plc_rows hn h6 hP
  exact ⟨A, ts, he, h2, h3, hb⟩
/-- the rows of all seats, cell by cell, in blocks from lo on -/
theorem plc_cells {w : World} {lo : Nat} {xs : List Int} {n : Nat} {A : Option Addr} (hn : xs.length = n) (h6 : n ≤ 6) (h : Plc w (fun q => q < lo) xs n (2 ^ n - 1) A) :
    ∃ g, A = some ⟨g, 0, none⟩ ∧ lo ≤ g ∧ g < w.heap.size ∧ ∀ i, i < n → ∃ r, lo ≤ r ∧ r < w.heap.size ∧ w.cell? ⟨g, i, none⟩ = some (.slice (some ⟨r, 0, none⟩) n n) ∧ ∀ k, k < n → w.cell? ⟨r, k, none⟩ = some (.float .f32 (PL xs k allL i)) := by
  obtain ⟨g, rfl, hg0, hg, _, hr⟩ := h
  have hc : cntL (bitL (2 ^ n - 1)) n = n := by
    rw [cntL_congr (L' := allL) n (fun k hk => by rw [full_bits n h6 k hk]; rfl), cnt_all]
  rw [hc] at hr
  refine ⟨g, rfl, Nat.le_of_not_lt hg0, hg, fun i hi => ?_⟩
  obtain ⟨r, r0, r1, r2, r3⟩ := hr i hi (full_bits n h6 i hi)
  refine ⟨r, Nat.le_of_not_lt r0, r1, r2, fun k hk => ?_⟩
  rw [r3 k hk, PL_congr k _ allL i (fun j hj => by rw [full_bits n h6 j (by omega)]; rfl)]

theorem shl_full : ∀ n : Nat, n ≤ 6 → wrap64 (wrap64 ((2 : Int) ^ n) - 1) = ((2 ^ n - 1 : Nat) : Int) := by
  have h : ∀ n : Fin 7, wrap64 (wrap64 ((2 : Int) ^ n.1) - 1) = ((2 ^ n.1 - 1 : Nat) : Int) := by decide +kernel
  exact fun n hn => h ⟨n, by omega⟩

set_option maxRecDepth 10000 in
set_option maxHeartbeats 4000000 in
theorem impl_PlaceChances (A : Option Addr) (n c : Nat) (xs : List Int) (w : World) (hR : Rd w w.heap.size A n xs) (hn : n ≤ 1048576) (_hnc : n ≤ c) :
    Calls Try.prog 30 #[.slice A n c] w fun e w' => ∃ A' c', e = .returned (.tuple #[.slice A' (pcOut xs).length c', .bool (sqOk xs)]) ∧ OwnF w' w.heap.size A' (pcOut xs).length c' (pcOut xs) ∧ Below w.heap.size w w' := by
  have HT := hide (areStacks_any A n c xs _ w hR hn)
  cases hq : sqOk xs
  · have hO : pcOut xs = [] := by simp [pcOut, hq]
    rw [hO]
    rw [hq] at HT
    clear hO hq
    go_enter Try.func30, Try.ntmps30
    go_wp2_with fail
    refine HT.out.mono ?_
    rintro e w' ⟨rfl, rfl⟩
    go_wp2
    go_ret2
    exact ⟨none, 0, rfl, OwnF.nil _ _, Below.refl _ _⟩
  · obtain ⟨g, hx1⟩ := sqOk_good hq
    have hO : pcOut xs = plAll xs n := by simp [pcOut, hq, hR.len]
    have hfew := g.few
    have hxn := hR.len
    rw [hxn] at hfew hx1
    rw [hO]
    rw [hq] at HT
    obtain ⟨b, o, rfl, hb, _⟩ := hR.2 (by omega)
    have HP := hide (placesAll_any xs g b o n c hxn hx1 w hR)
    have hsh := shl_full n hfew
    obtain ⟨S, hS⟩ := ex_eq (2 ^ n - 1)
    rw [hS] at hsh HP
    have hmm := @run_makeMap Try.prog
    have HXN := hide hxn
    clear hO hq hxn hS
    go_enter Try.func30, Try.ntmps30
    go_wp2_with fail
    refine HT.out.mono ?_
    rintro e w' ⟨rfl, rfl⟩
    go_wp2_with fail
    refine HP.out.mono ?_
    rintro e w2 ⟨A2, ts, rfl, hr2, hr3, hb2⟩
    have hz2 := hb2.size
    have hM : ∀ t ∈ ts, t.n ≤ 1048576 := fun t ht => by
      obtain ⟨i, hi⟩ := List.mem_iff_getElem?.1 ht
      have hlt : i < n := by rw [← hr2.len]; exact (List.getElem?_eq_some_iff.1 hi).1
      obtain ⟨t', t1, t2, _⟩ := hr3 i hlt
      rw [hi] at t1; cases t1
      omega
    have HC := hide (ConcatF_any A2 n n ts w2 hr2 (by omega) hM)
    have HE := hide (cat_all HXN.out hr3 n (Nat.le_refl _))
    rw [HE.out] at HC
    clear hr2 hr3 hM
    go_wp2_with fail
    refine HC.out.mono ?_
    rintro e w3 ⟨A3, c3, rfl, ho3, hb3⟩
    go_wp2
    go_ret2
    exact ⟨A3, c3, rfl, OwnF.mono ho3 hz2, hb2.trans (hb3.mono hz2)⟩
end Go.Proofs.Ytlfffkjgepgcfaa.pl
