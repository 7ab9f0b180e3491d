/-
  The cards that are not among some lists, in the implementation. Conditions: those of each theorem.
-/
import Derived.Test.YtlldocdmjeeaaaaHand
import Derived.Test.YtlldocdmjeeaaaaGrid
import Derived.Test.YtlldocdmjeeaaaaClone
namespace Go.Proofs.Ytlldocdmjeeaaaa.hand
open Go.RowKit
open base mem grid

def anyB (pss : List (List Int)) (x : Int) : Bool := pss.any fun p => hasB p x
def nums52 : List Int := (List.range 52).map fun (i : Nat) => (i : Int)
/-- the cards that are in none of the lists -/
def unkL (pss : List (List Int)) : List Int := nums52.filter fun x => !anyB pss x
theorem nums_take (k : Nat) (hk : k ≤ 52) : nums52.take k = (List.range k).map fun (i : Nat) => (i : Int) := by
  unfold nums52
  rw [← List.map_take, List.take_range, Nat.min_eq_left hk]
def unkT (pss : List (List Int)) (k : Nat) : List Int := ((List.range k).map fun (i : Nat) => (i : Int)).filter fun x => !anyB pss x
theorem unkT_step (pss : List (List Int)) (k : Nat) : unkT pss (k + 1) = if anyB pss (k : Int) = true then unkT pss k else unkT pss k ++ [(k : Int)] := by
  unfold unkT
  rw [List.range_succ, List.map_append, List.filter_append]
  cases h : anyB pss (k : Int)
  · simp [h]
  · simp [h]
theorem unkT_len (pss : List (List Int)) (k : Nat) : (unkT pss k).length ≤ k := by
  unfold unkT
  exact Nat.le_trans (List.length_filter_le _ _) (by simp)
theorem any_no {pss : List (List Int)} {x : Int} (h : ∀ j, j < pss.length → hasB (pss.getD j []) x = false) : anyB pss x = false := by
  unfold anyB
  rw [List.any_eq_false]
  intro p hp
  obtain ⟨j, hj, rfl⟩ := List.mem_iff_getElem.1 hp
  have := h j hj
  have e : pss.getD j [] = pss[j] := by simp [List.getD, hj]
  rw [e] at this
  rw [this]
  decide
theorem any_yes {pss : List (List Int)} {x : Int} {j : Nat} (hj : j < pss.length) (h : hasB (pss.getD j []) x = true) : anyB pss x = true := by
  unfold anyB
  rw [List.any_eq_true]
  have e : pss.getD j [] = pss[j] := by simp [List.getD, hj]
  rw [e] at h
  exact ⟨pss[j], List.getElem_mem hj, h⟩
theorem con_getU {ts : List Sl} {k : Nat} {t : Sl} (ht : ts[k]? = some t) : (con ts).getD k [] = t.xs := by
  have := con_at ht
  simp [List.getD, this]
theorem unknown1_any (A : Option Addr) (n c : Nat) (xs : List Int) (x : Int) (B : Nat) (w : World) (g : Nat) (hR : Rd w B A n xs) (hn : n ≤ 9223372036854775807) (hcap : w.cell? ⟨g, 0, none⟩ = some (.int .i64 x)) :
    Calls Try.prog 96 #[.slice A n c, .pointer (some ⟨g, 0, none⟩)] w fun e w' => e = .returned (.bool (hasB xs x)) ∧ w = w' := by
  have H := hide (Contains_any A n c xs x B w hR hn)
  obtain ⟨E, hE⟩ := ex_eq (hasB xs x)
  rw [hE] at H ⊢
  clear hR hE
  go_enter Try.func96, Try.ntmps96
  go_wp2_with (go_at_call 86; refine H.out.mono ?_; rintro e w' ⟨rfl, rfl⟩)
  go_ret
  exact ⟨rfl, rfl⟩
def anyIx (pss : List (List Int)) (x : Int) (i : Int) : Prop := (anyB pss x = true ∧ 0 ≤ i ∧ i < 9223372036854775808) ∨ (anyB pss x = false ∧ i = -1)
set_option maxHeartbeats 1000000 in
theorem IndexFunc_any (A : Option Addr) (m c : Nat) (ts : List Sl) (x : Int) (B : Nat) (w : World) (g : Nat) (hR : RdS w B A m ts) (hm : m ≤ 1048576) (hM : ∀ t ∈ ts, t.n ≤ 1048576) (hcap : w.cell? ⟨g, 0, none⟩ = some (.int .i64 x)) :
    Calls Try.prog 109 #[.slice A m c, .func (.func 96) #[] #[.pointer (some ⟨g, 0, none⟩)]] w fun e w' => (∃ i, e = .returned (.int .i64 i) ∧ anyIx (con ts) x i) ∧ w = w' := by
  have HL := hide (show (con ts).length = m by rw [con_len, hR.len])
  have HM := hide hM
  have HC := hide hcap
  clear hM hcap
  go_enter Try.func109, Try.ntmps109
  go_wp2
  go_loop [8] (fun i => ∃ k : Nat, k ≤ m ∧ i = .int .i64 k ∧ Hid (∀ j, j < k → hasB ((con ts).getD j []) x = false)) (fun i => m - (intOf i).toNat)
  case atStart => exact ⟨0, Nat.zero_le _, rfl, fun j hj => absurd hj (Nat.not_lt_zero j)⟩
  case round =>
    obtain ⟨k, hk, rfl, hno⟩ := hrel
    by_cases hlt : k < m
    · have hkx : k < (con ts).length := by rw [HL.out]; exact hlt
      obtain ⟨b, o, t, rfl, hbB, ht, hc, hok⟩ := hR.at_ hlt
      have hcd := con_getU ht
      have HU := hide (unknown1_any t.A t.n t.c t.xs x B w g hok.1 (by have := HM.out t (List.mem_of_getElem? ht); omega) HC.out)
      cases hh : hasB t.xs x
      · have HN := hide (show hasB ((con ts).getD k []) x = false by rw [hcd]; exact hh)
        rw [hh] at HU
        clear hcd hkx ht hok hR hh
        obtain ⟨tA, tn, tc, txs⟩ := t
        simp only at hc HU
        go_wp2_with (go_at_call 96; refine HU.out.mono ?_; rintro e w' ⟨rfl, rfl⟩)
        go_round
        case rel => exact ⟨k + 1, by omega, by go_num, fun j hj => by rcases Nat.lt_succ_iff_lt_or_eq.1 hj with h | h; exact hno.out j h; rw [h]; exact HN.out⟩
        case measure => simp [intOf]; omega
      · have HF := hide (any_yes hkx (by rw [hcd]; exact hh))
        rw [hh] at HU
        clear hcd hkx ht hok hR hh
        obtain ⟨tA, tn, tc, txs⟩ := t
        simp only at hc HU
        go_wp2_with (go_at_call 96; refine HU.out.mono ?_; rintro e w' ⟨rfl, rfl⟩)
        go_ret
        exact ⟨⟨_, rfl, .inl ⟨HF.out, by omega, by omega⟩⟩, rfl⟩
    · have hkm : k = m := by omega
      have HN := hide (any_no (pss := con ts) (x := x) (fun j hj => hno.out j (by rw [hkm, ← HL.out]; exact hj)))
      clear hkm hR
      go_wp2
      go_ret
      exact ⟨⟨_, rfl, .inr ⟨HN.out, rfl⟩⟩, rfl⟩
theorem ContainsFunc_any (A : Option Addr) (m c : Nat) (ts : List Sl) (x : Int) (B : Nat) (w : World) (g : Nat) (hR : RdS w B A m ts) (hm : m ≤ 1048576) (hM : ∀ t ∈ ts, t.n ≤ 1048576) (hcap : w.cell? ⟨g, 0, none⟩ = some (.int .i64 x)) :
    Calls Try.prog 95 #[.slice A m c, .func (.func 96) #[] #[.pointer (some ⟨g, 0, none⟩)]] w fun e w' => e = .returned (.bool (anyB (con ts) x)) ∧ w = w' := by
  have HI := hide (IndexFunc_any A m c ts x B w g hR hm hM hcap)
  obtain ⟨E, hE⟩ := ex_eq (anyB (con ts) x)
  rw [hE]
  have HE := hide hE
  clear hR hE hcap hM
  go_enter Try.func95, Try.ntmps95
  go_wp2_with fail
  refine HI.out.mono ?_
  rintro e w' ⟨⟨i, rfl, hi⟩, rfl⟩
  rcases hi with ⟨h1, h2, h3⟩ | ⟨h1, rfl⟩
  · have HF := hide (HE.out.symm.trans h1)
    have hd : decide (0 ≤ i) = true := by simpa using h2
    clear h1 HI
    go_wp2
    go_ret
    exact ⟨by rw [HF.out]; rfl, rfl⟩
  · have HF := hide (HE.out.symm.trans h1)
    clear h1 HI
    go_wp2
    go_ret
    exact ⟨by rw [HF.out]; rfl, rfl⟩

set_option maxHeartbeats 2000000 in
theorem unknown_any (A : Option Addr) (m c : Nat) (ts : List Sl) (w : World) (hR : RdS w w.heap.size A m ts) (hm : m ≤ 1048576) (hM : ∀ t ∈ ts, t.n ≤ 1048576) :
    Calls Try.prog 65 #[.slice A m c] w fun e w' => ∃ A' c', e = .returned (.slice A' (unkL (con ts)).length c') ∧ Own w' w.heap.size A' (unkL (con ts)).length c' (unkL (con ts)) ∧ Below w.heap.size w w' := by
  have HCF := hide (fun (x : Int) (q : World) (g : Nat) (hb : Below w.heap.size w q) hc => ContainsFunc_any A m c ts x w.heap.size q g (hR.below hb) hm hM hc)
  have HFIN : Hid (unkT (con ts) 52 = unkL (con ts)) := rfl
  obtain ⟨U, hU⟩ := ex_eq (unkL (con ts))
  rw [hU] at HFIN ⊢
  have HL0 := hide (Lst.new w (Nat.le_refl _))
  have HB0 := hide ((Below.refl w.heap.size w).alloc (Nat.le_refl _) (.cells #[] 2))
  have hmf : ∀ (fn : Fn) (first cap : Array Value) (w : World), (Instr.makeFunc fn first cap).run Try.prog w = .ok (.func fn first cap) w := fun _ _ _ _ => rfl
  clear hU hR hM
  go_enter Try.func65, Try.ntmps65
  go_wp2
  go_loopw [3, 6] (fun v i wr => ∃ k : Nat, k ≤ 52 ∧ i = .int .i64 k ∧ Lst wr w.heap.size v (unkT (con ts) k) ∧ Below w.heap.size w wr) (fun _ i _ => 52 - (intOf i).toNat)
  case atStart => exact ⟨0, Nat.zero_le _, rfl, HL0.out, HB0.out⟩
  case round =>
    obtain ⟨k, hk, rfl, hO, hb⟩ := hrel
    by_cases hlt : k < 52
    · have hst := unkT_step (con ts) k
      have hOl := unkT_len (con ts) k
      have hgr := hb.size
      have hOa := hO.alloc (.cells #[.int .i64 (k : Int)] 2)
      have hba := hb.alloc hgr (.cells #[.int .i64 (k : Int)] 2)
      have hcc : (wr.alloc (.cells #[.int .i64 (k : Int)] 2)).cell? ⟨wr.heap.size, 0, none⟩ = some (.int .i64 (k : Int)) := cell_one_new wr (.int .i64 (k : Int)) 2 0 _ rfl
      have HC := hide (HCF.out (k : Int) _ wr.heap.size hba hcc)
      obtain ⟨S, hS⟩ := ex_eq (unkT (con ts) k)
      rw [hS] at hst hO hOl hOa
      cases hh : anyB (con ts) (k : Int)
      · rw [hh] at HC hst
        rw [if_neg (by decide)] at hst
        have HST := hide hst
        clear hst hS hO
        go_wp2_with (first | (go_at_call 95; refine HC.out.mono ?_; rintro e w' ⟨rfl, rfl⟩) | (at_builtin; refine wpList_app rfl (.tmp 13) (.tmp 15) rfl w.heap.size _ S [(k : Int)] rfl (hOa.alloc _) (some ⟨wr.heap.size + 1, 0, none⟩) 1 1 rfl (by have h := rd_one (wr.alloc (.cells #[.int .i64 (k : Int)] 2)) (k : Int) 2; simpa using h) (fun h => by cases h) (by omega) (by simp; omega) ?_; intro v4 w4 ho4 hg4 hbk4))
        have hb4 := (hba.alloc (by simp; omega) (.cells #[.int .i64 (k : Int)] 2)).grown hg4 (by simp; omega) (fun k hk => (hOa.blk k hk).1)
        have ho4' : Lst w4 w.heap.size v4 (unkT (con ts) (k + 1)) := by rw [HST.out]; exact ho4
        clear ho4 hg4 hbk4
        go_roundw
        case rel => exact ⟨k + 1, by omega, by go_num, ho4', hb4⟩
        case measure => simp [intOf]; omega
      · rw [hh] at HC hst
        rw [if_pos rfl] at hst
        have HST := hide hst
        clear hst hS hO
        go_wp2_with (go_at_call 95; refine HC.out.mono ?_; rintro e w' ⟨rfl, rfl⟩)
        go_roundw
        case rel => exact ⟨k + 1, by omega, by go_num, by rw [HST.out]; exact hOa, hba⟩
        case measure => simp [intOf]; omega
    · have hk52 : k = 52 := by omega
      rw [hk52, HFIN.out] at hO
      obtain ⟨A', c', rfl, ho⟩ := hO.form
      clear hk52 hO
      go_wp2
      go_ret
      exact ⟨A', c', rfl, ho, hb⟩

end Go.Proofs.Ytlldocdmjeeaaaa.hand
