/- The document's book: Many, Keys. The document's less. -/
import Derived.Test.YtdbceafejbnebaaGreatDoorM24
import Derived.Deep.RegionHeld3
import Derived.Sort.Walk0
/-! The document's book: Many, Keys. -/
namespace Go.Proofs.YtdbceafejbnebaaGreatDoor
open Go Go.RowKit
def rknU (c : RC) (n : Nat) : List Kn := (List.range n).filterMap fun d => if c.hs[d]? = some true then c.ks[d]?.map fun x => (UInt8.ofNat d, x) else none
theorem rkn_rknU (c : RC) : rkn c = rknU c 4 := rfl
theorem rknU_succ (c : RC) (d : Nat) (hd : d < 4) : rknU c (d + 1) = rknU c d ++ (if c.hs[d]'(by rw [c.hh]; exact hd) = true then [(UInt8.ofNat d, c.ks[d]'(by rw [c.hk]; exact hd))] else []) := by
  unfold rknU
  rw [List.range_succ, List.filterMap_append]
  congr 1
  simp only [List.filterMap_cons, List.filterMap_nil, List.getElem?_eq_getElem (show d < c.hs.length by rw [c.hh]; exact hd), List.getElem?_eq_getElem (show d < c.ks.length by rw [c.hk]; exact hd), Option.some.injEq, Option.map_some]
  split <;> rename_i h <;> simp at h <;> simp [h]
theorem rknU_len (c : RC) : ∀ n, (rknU c n).length ≤ n := by
  intro n
  unfold rknU
  exact Nat.le_trans (List.length_filterMap_le _ _) (by simp)
set_option maxHeartbeats 1000000 in
theorem rmany62 {w : World} {g : Nat} {acct : UInt8} {ov : Value} {ρ : Rb} (hr : RefAt w g acct ov ρ) (a : UInt8) :
    Calls Tryz.prog 62 #[.pointer (some ⟨g, 0, none⟩), byteV a] w fun e w' => e = .returned (.int .i64 (if a.toNat < 8 then (rkn (ρ a)).length else 0 : Nat)) ∧ w' = w := by
  unfold byteV
  by_cases h : a.toNat < 8
  · rw [if_pos h]
    have HR := Lib.hid (show _ ∧ _ from ⟨hr, h⟩)
    have e1 : decide ((a.toNat : Int) < 8) = true := by simp; omega
    have e2 : (a.toNat : Int) < 8 := by omega
    have e3 : (0 : Int) ≤ (a.toNat : Int) := by omega
    clear hr h
    go_enter Tryz.func62, Tryz.ntmps62
    go_wp2
    go_loopw [6, 5] (fun i n wr => ∃ k : Nat, i = .int .i64 (k : Int) ∧ k ≤ 4 ∧ n = .int .i64 ((rknU (ρ a) k).length : Int) ∧ wr = w) (fun i _ _ => 4 - (intOf i).toNat)
    case atStart => exact ⟨0, rfl, by omega, rfl, rfl⟩
    case round =>
      obtain ⟨k, rfl, hk, rfl, hw⟩ := hrel
      rw [hw]
      clear hw
      by_cases hlt : k < 4
      · have hltI : (k : Int) < 4 := by omega
        have hk0 : (0 : Int) ≤ (k : Int) := by omega
        have d1 := HR.out.1.has a HR.out.2 k hlt
        have hs := rknU_succ (ρ a) k hlt
        have hl := rknU_len (ρ a) k
        obtain ⟨b, hb⟩ : ∃ b, b = (ρ a).hs[k]'(by rw [(ρ a).hh]; exact hlt) := ⟨_, rfl⟩
        rw [← hb] at d1 hs
        have z0 : IntKind.i64.wrap ((k : Int) + 1) = (k : Int) + 1 := IntWalk.i64_in _ (by omega)
        have z1 : IntKind.i64.wrap (((rknU (ρ a) k).length : Int) + 1) = ((rknU (ρ a) k).length : Int) + 1 := IntWalk.i64_in _ (by omega)
        have HS := Lib.hid (show _ ∧ _ from ⟨hs, hlt⟩)
        clear hb hs hl
        cases b with
        | true =>
          go_wp2
          go_roundw
          case rel =>
            refine ⟨k + 1, by simp, by omega, ?_, trivial⟩
            rw [HS.out.1]
            simp
          case measure => simp [intOf]; omega
        | false =>
          go_wp2
          go_roundw
          case rel =>
            refine ⟨k + 1, by simp, by omega, ?_, trivial⟩
            rw [HS.out.1]
            simp
          case measure => simp [intOf]; omega
      · obtain rfl : k = 4 := by omega
        go_wp2
        go_ret
        exact ⟨rfl, rfl⟩
  · rw [if_neg h]
    have e1 : decide ((a.toNat : Int) < 8) = false := by simp; omega
    clear hr h
    go_enter Tryz.func62, Tryz.ntmps62
    go_wp2
    go_loopw [6, 5] (fun i n wr => i = .int .i64 0 ∧ n = .int .i64 0 ∧ wr = w) (fun _ _ _ => 0)
    case atStart => exact ⟨rfl, rfl, rfl⟩
    case round =>
      obtain ⟨rfl, rfl, hw⟩ := hrel
      rw [hw]
      clear hw
      go_wp2
      go_ret
      exact ⟨rfl, rfl⟩
set_option maxHeartbeats 1000000 in
set_option maxRecDepth 100000 in
theorem rkeys35 {w : World} {g : Nat} {acct : UInt8} {ov : Value} {ρ : Rb} (hr : RefAt w g acct ov ρ) (a : UInt8) :
    Calls Tryz.prog 35 #[.pointer (some ⟨g, 0, none⟩), byteV a] w fun e w' => ∃ v, e = .returned v ∧ w'.ownsRow w.heap.size 31 32 v (if a.toNat < 8 then (rkn (ρ a)).length else 0) ((if a.toNat < 8 then (rkn (ρ a)).map (·.2) else []).flatMap keyCells) ∧ Upd [] w w' := by
  unfold byteV
  obtain ⟨i0, hi, hz0, hz1, hz2⟩ := info_parts Tryz.info31
  have HN : Hid (0 < 32 ∧ 32 ≤ 1000) := by show _ ∧ _; omega
  by_cases h : a.toNat < 8
  · rw [if_pos h, if_pos h]
    have HR := Lib.hid (show _ ∧ _ from ⟨hr, h⟩)
    have e1 : decide ((a.toNat : Int) < 8) = true := by simp; omega
    have e2 : (a.toNat : Int) < 8 := by omega
    have e3 : (0 : Int) ≤ (a.toNat : Int) := by omega
    clear hr h
    go_enter Tryz.func35, Tryz.ntmps35
    go_wp2
    go_loopw [6, 5] (fun i v wr => ∃ k : Nat, i = .int .i64 (k : Int) ∧ k ≤ 4 ∧ IsSl v ∧ Hid (wr.ownsRow w.heap.size 31 32 v (rknU (ρ a) k).length (((rknU (ρ a) k).map (·.2)).flatMap keyCells) ∧ Upd [] w wr)) (fun i _ _ => 4 - (intOf i).toNat)
    case atStart => exact ⟨0, rfl, by omega, ⟨none, 0, 0, rfl⟩, Lib.hid ⟨World.ownsRow_nil w _ 31 32, Upd.refl _ _⟩⟩
    case round =>
      obtain ⟨wz, hwz⟩ : ∃ wz, wz = wr := ⟨_, rfl⟩
      rw [← hwz] at hrel ⊢
      clear hwz
      obtain ⟨k, rfl, hk, ⟨va, vn, vc, rfl⟩, hR⟩ := hrel
      by_cases hlt : k < 4
      · have hltI : (k : Int) < 4 := by omega
        have hk0 : (0 : Int) ≤ (k : Int) := by omega
        have hB : RefAt wz g acct ov ρ := HR.out.1.upd hR.out.2 (by simp)
        have d1 := hB.has a HR.out.2 k hlt
        have d2 := hB.key a HR.out.2 k hlt
        have hs := rknU_succ (ρ a) k hlt
        obtain ⟨b, hb⟩ : ∃ b, b = (ρ a).hs[k]'(by rw [(ρ a).hh]; exact hlt) := ⟨_, rfl⟩
        obtain ⟨x, hx⟩ : ∃ x, x = (ρ a).ks[k]'(by rw [(ρ a).hk]; exact hlt) := ⟨_, rfl⟩
        rw [← hb] at d1 hs
        rw [← hx] at d2 hs
        rw [← Nat.add_assoc (2 + a.toNat * 133)] at d2
        have z0 : IntKind.i64.wrap ((k : Int) + 1) = (k : Int) + 1 := IntWalk.i64_in _ (by omega)
        have hu2 : Upd [] wz (wz.alloc (.cells (keyCells x).toArray 31 (0, 0))) := Upd.new wz _
        have ho2 := owns_upd hR.out.1 hu2 (by simp)
        have HS := Lib.hid (show _ ∧ _ ∧ _ ∧ _ ∧ _ ∧ _ from ⟨hs, hlt, d2, rknU_len (ρ a) k, ho2, hR.out.2.trans hu2⟩)
        clear hb hs d2 hB ho2 hu2
        cases b with
        | true =>
          go_wp2_with (first
            | (refine wpList_load_mid rfl 31 _ rfl g (2 + a.toNat * 133 + 4 + k * 32) rfl (keyCells x) _ HS.out.2.2.1 Tryz.underlying31 rfl (hu31 _) ?_)
            | (refine wpList_slice1 rfl 28 31 _ rfl (.agg (keyCells x).toArray) rfl (keyCells x) 32 rfl (keyCells_len x) HN i0 _ Tryz.underlying28 hi hz0 hz1 ?_)
            | (at_builtin; refine wpList_append_own _ rfl _ _ 28 rfl w.heap.size 31 i0 _ 32 32 Tryz.underlying28 hi hz0 hz1 hz2 rfl (by decide) _ (rknU (ρ a) k).length _ rfl HS.out.2.2.2.2.1 ⟨wz.heap.size, 0, none⟩ 1 1 (keyCells x) rfl (by rw [keyCells_len]) (new_cells 31) (keyCells_one x) (by have := HS.out.2.2.2.1; have := HS.out.2.1; simp only [maxLen]; omega) (by have := HS.out.2.2.2.1; have := HS.out.2.1; omega) HS.out.2.2.2.2.2.size ?_; intro v4 w4 q1 q2 q3; have hsl4 := owns_isSl q1; have HQ4 := Lib.hid (show _ ∧ _ from ⟨q1, q2⟩); clear q1 q2 q3))
          refine ⟨⟨k + 1, by simp, by omega, hsl4, Lib.hid ⟨?_, upd_grown HS.out.2.2.2.2.2 HQ4.out.2 (owns_block hR.out.1)⟩⟩, by simp [intOf]; omega⟩
          rw [HS.out.1]
          have q := HQ4.out.1
          simpa using q
        | false =>
          go_wp2
          go_roundw
          case rel =>
            refine ⟨k + 1, by simp, by omega, ⟨va, vn, vc, rfl⟩, Lib.hid ?_⟩
            rw [HS.out.1]
            simpa using hR.out
          case measure => simp [intOf]; omega
      · obtain rfl : k = 4 := by omega
        go_wp2
        go_ret
        exact ⟨_, rfl, by rw [rkn_rknU]; exact hR.out.1, hR.out.2⟩
  · rw [if_neg h, if_neg h]
    have e1 : decide ((a.toNat : Int) < 8) = false := by simp; omega
    clear hr h
    go_enter Tryz.func35, Tryz.ntmps35
    go_wp2
    go_loopw [6, 5] (fun i n wr => i = .int .i64 0 ∧ n = .slice none 0 0 ∧ wr = w) (fun _ _ _ => 0)
    case atStart => exact ⟨rfl, rfl, rfl⟩
    case round =>
      obtain ⟨rfl, rfl, hw⟩ := hrel
      rw [hw]
      clear hw
      go_wp2
      go_ret
      exact ⟨_, rfl, World.ownsRow_nil w _ 31 32, Upd.refl _ _⟩
end Go.Proofs.YtdbceafejbnebaaGreatDoor
/-! The document's less. -/
namespace Go.Proofs.YtdbceafejbnebaaGreatDoor
open Go Go.RowKit
theorem keyS61 (k : K) (w : World) : Calls Tryz.prog 61 #[.agg (keyCells k).toArray] w fun e w' => ∃ g c, e = .returned (.slice (some ⟨g, 0, none⟩) 32 c) ∧ (∀ w2, Upd [] w' w2 → (convert 22 9 (.slice (some ⟨g, 0, none⟩) 32 c)).run Tryz.prog w2 = .ok (.string ⟨k.1.toArray⟩) w2) ∧ Upd [] w w' := by
  refine (key61 k w).mono ?_
  rintro e w' ⟨v, rfl, ho, hu⟩
  have ho' := ho
  obtain ⟨_, h2 | ⟨g, cap, cur, rfl, hb, hg, _, _, _, ht⟩⟩ := ho
  · exact absurd h2.2 (by decide)
  · refine ⟨g, cap, rfl, ?_, hu⟩
    intro w2 hu2
    have ho2 := owns_upd ho' hu2 (by simp)
    have q := run_convert_bytes_back (P := Tryz.prog) w2 22 9 5 ⟨g, 0, none⟩ cap k.1 Tryz.underlying22 Tryz.underlying5 Tryz.underlying9 (by
      intro j hj
      have hj32 : j < 32 := by rw [← k.2]; exact hj
      have := owns_cells ho2 j (byteV k.1[j]) (by unfold keyCells; simp [hj])
      rw [Addr.add_lit, Nat.zero_add]
      exact this)
    rw [k.2] at q
    exact q
/-- A stronger hold serves. -/
theorem wpAnyH_S {P : Program} {ops : Array Oper} {Q : Exit → Act → World → Prop} {md : Region.Mode} {S S' : World → Prop} (h : ∀ w, S' w → S w) : ∀ (fuel : Nat) (listed : Array Bool) (a : Act) (w : World), wpAnyH P md ops Q S' fuel listed a w → wpAnyH P md ops Q S fuel listed a w
  | 0, _, _, _, q => q
  | fuel + 1, _, _, _, q => ⟨q.1, fun i hi => wpOp_mono (fun a' w' r => ⟨h _ r.1, wpAnyH_S h fuel _ a' w' r.2⟩) (q.2 i hi)⟩
/-- The one operation that may come up is a call of a Go function; behind it the hold may be chosen anew. -/
theorem wpAnyH_enter {P : Program} {ops : Array Oper} {Q : Exit → Act → World → Prop} {md : Region.Mode} {S : World → Prop} (i : Nat) {o : Oper} {fuel : Nat} {listed : Array Bool} {a : Act} {w : World} {f : FuncId} {args : Array Value}
    (hr : Region.ready md ops listed = [i]) (hi : ops[i]? = some o) (hw : Region.wanted o (yielded ops a.tmps) = true) (hrun : (execOp a.eval o).run P w = .ok (.enter f args) w)
    (h : Calls P f args w fun e w' => ∃ v, e = .returned v ∧ S w' ∧ ∃ S', (∀ x, S' x → S x) ∧ wpAnyH P md ops Q S' fuel (listed.setIfInBounds i true) (a.put o.dst v) w') : wpAnyH P md ops Q S (fuel + 1) listed a w := by
  refine wpAnyH_one hr ?_
  unfold wpOp
  simp only [hi, hw, if_true]
  refine .inl ?_
  unfold Oper.wp
  rw [hrun, Oper.upon_enter]
  refine h.mono ?_
  rintro e w' ⟨v, rfl, hS, S', h1, h2⟩
  exact ⟨hS, wpAnyH_S h1 _ _ _ _ h2⟩
set_option maxHeartbeats 1000000 in
set_option maxRecDepth 100000 in
theorem less78 (a b : K) (w : World) : Calls Tryz.prog 78 #[.agg (keyCells a).toArray, .agg (keyCells b).toArray] w fun e w' => e = .returned (.bool (decide (a.1 < b.1))) ∧ Upd [] w w' := by
  have b1 := heap_alloc2_old w (.cells (keyCells a).toArray 31 (0, 0)) (.cells (keyCells b).toArray 31 (0, 0))
  have b2 := heap_alloc2_new w (.cells (keyCells a).toArray 31 (0, 0)) (.cells (keyCells b).toArray 31 (0, 0))
  have hu : Upd [] w ((w.alloc (.cells (keyCells a).toArray 31 (0, 0))).alloc (.cells (keyCells b).toArray 31 (0, 0))) := (Upd.new w _).trans (Upd.new _ _)
  obtain ⟨W, hW⟩ : ∃ W, (w.alloc (.cells (keyCells a).toArray 31 (0, 0))).alloc (.cells (keyCells b).toArray 31 (0, 0)) = W := ⟨_, rfl⟩
  rw [hW] at b1 b2 hu
  have HB := Lib.hid (show _ ∧ _ ∧ _ from ⟨b1, b2, hu⟩)
  clear b1 b2 hu
  go_enter Tryz.func78, Tryz.ntmps78
  go_upto_region 1 with fail
  clear hW
  obtain ⟨L, hL⟩ : ∃ L, L = w.heap.size := ⟨_, rfl⟩
  rw [← hL] at HB ⊢
  clear hL
  have hS : ∀ w', Upd [] W w' → (w'.rangeAt L 0 (keyCells a) ∧ w'.rangeAt (L + 1) 0 (keyCells b)) := by
    intro w' hu'
    constructor
    · intro j v hj
      rw [cell_of_heap (hu'.heap HB.out.1 (by simp)), Nat.zero_add]
      simp only [List.getElem?_toArray]
      exact hj
    · intro j v hj
      rw [cell_of_heap (hu'.heap HB.out.2.1 (by simp)), Nat.zero_add]
      simp only [List.getElem?_toArray]
      exact hj
  refine wp_region_held (S := Upd [] W) (by kernel_rfl) ?_
  have s0 : Upd [] W W.drew := (Upd.refl [] W).drew
  change wpAnyH _ _ _ _ _ _ _ _ W.drew
  refine wpAnyH_take (i := 0) (v := .agg (keyCells a).toArray) rfl (by kernel_rfl) (by kernel_rfl) (by kernel_rfl) (fun _ _ _ h => h) (.inl ⟨by kernel_rfl, ?_⟩) s0 ?_
  · intro w' hw'
    exact load31 (x := .tmp 2) rfl (by go_simp) (hS w' hw').1
  refine wpAnyH_take (i := 3) (v := .agg (keyCells b).toArray) rfl (by kernel_rfl) (by kernel_rfl) (by kernel_rfl) (fun _ _ _ h => h) (.inl ⟨by kernel_rfl, ?_⟩) s0 ?_
  · intro w' hw'
    exact load31 (x := .tmp 3) rfl (by go_simp) (hS w' hw').2
  refine wpAnyH_enter 1 (by kernel_rfl) rfl (by kernel_rfl) (f := 61) (args := #[.agg (keyCells a).toArray]) (by go_simp) ((keyS61 a _).mono ?_)
  rintro e w1 ⟨g1, c1, rfl, hc1, hu1⟩
  refine ⟨_, rfl, s0.trans hu1, Upd [] w1, fun x hx => (s0.trans hu1).trans hx, ?_⟩
  refine wpAnyH_take (i := 2) (v := .string ⟨a.1.toArray⟩) rfl (by kernel_rfl) (by kernel_rfl) (by kernel_rfl) (fun _ _ _ h => h) (.inl ⟨by kernel_rfl, ?_⟩) (Upd.refl [] w1) ?_
  · intro w' hw'
    have q := hc1 w' hw'
    go_simp
  refine wpAnyH_enter 4 (by kernel_rfl) rfl (by kernel_rfl) (f := 61) (args := #[.agg (keyCells b).toArray]) (by go_simp) ((keyS61 b _).mono ?_)
  rintro e w2 ⟨g2, c2, rfl, hc2, hu2⟩
  refine ⟨_, rfl, hu2, Upd [] w2, fun x hx => hu2.trans hx, ?_⟩
  refine wpAnyH_take (i := 5) (v := .string ⟨b.1.toArray⟩) rfl (by kernel_rfl) (by kernel_rfl) (by kernel_rfl) (fun _ _ _ h => h) (.inl ⟨by kernel_rfl, ?_⟩) (Upd.refl [] w2) ?_
  · intro w' hw'
    have q := hc2 w' hw'
    go_simp
  refine wpAnyH_take (i := 6) (v := .bool (decide (a.1 < b.1))) rfl (by kernel_rfl) (by kernel_rfl) (by kernel_rfl) (fun _ _ _ h => h) (.inl ⟨by kernel_rfl, ?_⟩) (Upd.refl [] w2) ?_
  · intro w' hw'
    have hlt : Op.bytesLess a.1 b.1 = decide (a.1 < b.1) := bytesLess_eq a.1 b.1
    go_simp
  refine wpAnyH_take (i := 7) (v := .bool (decide (a.1 < b.1))) rfl (by kernel_rfl) (by kernel_rfl) (by kernel_rfl) (fun _ _ _ h => h) (.inl ⟨by kernel_rfl, ?_⟩) (Upd.refl [] w2) ?_
  · intro w' hw'
    go_simp
  refine wpAnyH_done (by kernel_rfl) ?_ _
  have huu := (HB.out.2.2.trans s0).trans (hu1.trans hu2)
  clear hc1 hc2 hS HB s0 hu1 hu2
  go_simp
  go_wp2
  go_ret
  exact ⟨rfl, huu⟩
end Go.Proofs.YtdbceafejbnebaaGreatDoor
