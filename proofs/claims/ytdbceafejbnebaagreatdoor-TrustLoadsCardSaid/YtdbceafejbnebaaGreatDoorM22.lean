/- The document's small functions: two, Of, Key, OfKey. The document's OfKey. The document's cut: next. -/
import Derived.Test.YtdbceafejbnebaaGreatDoorM21
import Derived.Test.YtdbceafejbnebaaGreatDoorM18
/-! The document's small functions: two, Of, Key, OfKey. -/
namespace Go.Proofs.YtdbceafejbnebaaGreatDoor
open Go Go.RowKit
theorem two60 (n : Nat) (hn : n < 256) (w : World) : Calls Tryz.prog 60 #[.int .i64 n] w fun e w' => e = .returned (.slice (some ⟨w.heap.size, 0, none⟩) 2 2) ∧ w' = w.alloc (.cells #[.int .u8 0, .int .u8 n] 5) := by
  have h1 : ((n : Int)).tdiv 256 = 0 := by rw [Int.tdiv_eq_ediv_of_nonneg (by omega)]; omega
  have h2 : ((n : Int)).tmod 256 = (n : Int) := by rw [Int.tmod_eq_emod_of_nonneg (by omega)]; omega
  have h3 : IntKind.u8.wrap (n : Int) = (n : Int) := IntWalk.u8_in _ (by omega)
  have h4 : IntKind.i64.wrap (n : Int) = (n : Int) := IntWalk.i64_in _ (by omega)
  have h5 : (n : Int) % 256 = (n : Int) := by omega
  have h6 : (n : Int) / 256 = 0 := by omega
  go_enter Tryz.func60, Tryz.ntmps60
  go_wp2
  go_ret
  exact ⟨rfl, rfl⟩
set_option maxHeartbeats 1000000 in
theorem of31 {w : World} (g off cap : Nat) (xs : List UInt8) (hx : ∀ j (hj : j < xs.length), w.cell? ⟨g, off + j, none⟩ = some (.int .u8 (xs[j].toNat : Int))) (hl : xs.length ≤ 2) :
    Calls Tryz.prog 31 #[.slice (some ⟨g, off, none⟩) xs.length cap] w fun e w' => e = .returned (.int .u64 (be xs)) ∧ w' = w := by
  have HX := Lib.hid (show _ ∧ _ from ⟨hx, hl⟩)
  clear hx hl
  go_enter Tryz.func31, Tryz.ntmps31
  go_wp2
  go_loopw [4, 3] (fun i n wr => ∃ k : Nat, i = .int .i64 (k : Int) ∧ k ≤ xs.length ∧ n = .int .u64 (be (xs.take k)) ∧ wr = w) (fun i _ _ => xs.length - (intOf i).toNat)
  case atStart => exact ⟨0, rfl, by omega, by simp [be], rfl⟩
  case round =>
    obtain ⟨k, rfl, hk, rfl, hw⟩ := hrel
    rw [hw]
    clear hw
    by_cases hlt : k < xs.length
    · have hltI : (k : Int) < (xs.length : Int) := by omega
      have hk0 : (0 : Int) ≤ (k : Int) := by omega
      have d1 := HX.out.1 k hlt
      have hk2 : (k : Int) ≤ 2 := by have := HX.out.2; omega
      have z0 : IntKind.i64.wrap ((k : Int) + 1) = (k : Int) + 1 := IntWalk.i64_in _ (by omega)
      obtain ⟨c, hc⟩ : ∃ c, c = xs[k] := ⟨_, rfl⟩
      rw [← hc] at d1
      have hbe : be (xs.take (k + 1)) = be (xs.take k) * 256 + c.toNat := by
        rw [← List.take_append_getElem hlt, be_snoc, hc]
      have hb := be_lt (xs.take k)
      have hkl : (xs.take k).length ≤ 1 := by rw [List.length_take]; have := HX.out.2; omega
      have hb2 : be (xs.take k) < 256 := Nat.lt_of_lt_of_le hb (by
        have := Nat.pow_le_pow_right (show 0 < 256 by decide) hkl
        simpa using this)
      have hc2 := UInt8.toNat_lt c
      obtain ⟨B, hB⟩ : ∃ B, B = be (xs.take k) := ⟨_, rfl⟩
      rw [← hB] at hbe hb2 ⊢
      have z1 : IntKind.u64.wrap (256 * (B : Int)) = 256 * (B : Int) := IntWalk.u64_in _ (by omega)
      have z2 : IntKind.u64.wrap (c.toNat : Int) = (c.toNat : Int) := IntWalk.u64_in _ (by omega)
      have z3 : IntKind.u64.wrap (256 * (B : Int) + (c.toNat : Int)) = 256 * (B : Int) + (c.toNat : Int) := IntWalk.u64_in _ (by omega)
      have HE := Lib.hid (show _ ∧ _ from ⟨hbe, hc⟩)
      clear hbe hc hb hkl hb2 hc2 hB
      go_wp2
      go_roundw
      case rel =>
        refine ⟨k + 1, by simp, by omega, ?_, trivial⟩
        rw [HE.out.1]
        congr 1
        first | omega | (rw [z3]; omega)
      case measure => simp [intOf]; omega
    · obtain rfl : k = xs.length := by omega
      rw [List.take_of_length_le (Nat.le_refl _)]
      go_wp2
      go_ret
      exact ⟨rfl, rfl⟩
set_option maxHeartbeats 1000000 in
set_option maxRecDepth 100000 in
theorem key61 (k : K) (w : World) : Calls Tryz.prog 61 #[.agg (keyCells k).toArray] w fun e w' => ∃ v, e = .returned v ∧ w'.ownsRow w.heap.size 5 1 v 32 (keyCells k) ∧ Upd [] w w' := by
  obtain ⟨i0, hi, hz0, hz1, hz2⟩ := info_parts Tryz.info5
  have hk2 := k.2
  obtain ⟨l, hl⟩ : ∃ l, l = k.1 := ⟨_, rfl⟩
  have e1 : keyCells k = l.map byteV := by rw [hl]; rfl
  rw [e1]
  rw [← hl] at hk2
  have HK := Lib.hid hk2
  clear e1 hl hk2
  go_enter Tryz.func61, Tryz.ntmps61
  go_wp2
  obtain ⟨L, hL⟩ : ∃ L, L = w.heap.size := ⟨_, rfl⟩
  have hb := heap_alloc_new w (.cells (l.map byteV).toArray 31)
  have hu := Upd.new w (.cells (l.map byteV).toArray 31)
  generalize w.alloc (.cells (l.map byteV).toArray 31) = w1 at hb hu ⊢
  rw [← hL] at hb ⊢
  have HB := Lib.hid (show _ ∧ _ ∧ _ from ⟨hb, hu, hL⟩)
  clear hb hu hL
  go_loopw [4, 3] (fun i v wr => ∃ k : Nat, i = .int .i64 (k : Int) ∧ k ≤ 32 ∧ IsSl v ∧ Hid (wr.ownsRow w1.heap.size 5 1 v k ((l.take k).map byteV) ∧ Upd [] w1 wr)) (fun i _ _ => 32 - (intOf i).toNat)
  case atStart => exact ⟨0, rfl, by omega, ⟨none, 0, 0, rfl⟩, Lib.hid ⟨World.ownsRow_nil w1 _ 5 1, Upd.refl _ _⟩⟩
  case round =>
    obtain ⟨wz, hwz⟩ : ∃ wz, wz = wr := ⟨_, rfl⟩
    rw [← hwz] at hrel ⊢
    clear hwz
    obtain ⟨k, rfl, hk, ⟨va, vn, vc, rfl⟩, hR⟩ := hrel
    by_cases hlt : k < 32
    · have hltI : (k : Int) < 32 := by omega
      have hk0 : (0 : Int) ≤ (k : Int) := by omega
      have hkl : k < l.length := by rw [HK.out]; exact hlt
      obtain ⟨c, hc⟩ : ∃ c, c = l[k] := ⟨_, rfl⟩
      have d1 : wz.cell? ⟨L, k, none⟩ = some (.int .u8 (c.toNat : Int)) := by
        rw [cell_of_heap (hR.out.2.heap HB.out.1 (by simp)), hc]
        simp [hkl, byteV]
      have hoz : (wz.alloc (.cells #[byteV c] 5 (0, 0))).ownsRow w1.heap.size 5 1 (.slice va vn vc) k ((l.take k).map byteV) := owns_upd hR.out.1 (Upd.new wz _) (by simp)
      have HZ := Lib.hid (show _ ∧ _ ∧ _ ∧ _ from ⟨hoz, new_cells (w := wz) (xs := [byteV c]) 5, hR.out.2.size, hlt⟩)
      have HC := Lib.hid (show l.take (k + 1) = l.take k ++ [c] by rw [hc]; exact (List.take_append_getElem hkl).symm)
      clear hoz hc hkl
      go_wp2_with (at_builtin; refine wpList_append_own _ rfl _ _ 22 rfl w1.heap.size 5 i0 (.int .u8 0) 1 1 Tryz.underlying22 hi hz0 hz1 hz2 rfl (by decide) _ k _ rfl HZ.out.1 ⟨wz.heap.size, 0, none⟩ 1 1 [byteV c] rfl rfl HZ.out.2.1 (byteV_one [c]) (by have := HZ.out.2.2.2; simp only [maxLen]; omega) (by have := HZ.out.2.2.2; omega) (Nat.le_trans HZ.out.2.2.1 (Upd.new wz _).size) ?_; intro v4 w4 q1 q2 q3; have hsl4 := owns_isSl q1; have HQ4 := Lib.hid (show _ ∧ _ from ⟨q1, q2⟩); clear q1 q2 q3)
      refine ⟨⟨k + 1, by simp, by omega, hsl4, Lib.hid ⟨?_, upd_grown (hR.out.2.trans (Upd.new wz _)) HQ4.out.2 (owns_block hR.out.1)⟩⟩, by simp [intOf]; omega⟩
      rw [HC.out, List.map_append]
      exact HQ4.out.1
    · have hkI : (k : Int) = 32 := by omega
      have hkN : k = 32 := by omega
      rw [hkN] at hR
      rw [hkI]
      clear hkI hkN hk hlt
      go_wp2
      go_ret
      have h := hR.out.1
      rw [List.take_of_length_le (by rw [HK.out]; exact Nat.le_refl _)] at h
      exact ⟨_, rfl, owns_base h HB.out.2.1.size, HB.out.2.1.trans hR.out.2⟩
end Go.Proofs.YtdbceafejbnebaaGreatDoor
/-! The document's OfKey. -/
namespace Go.Proofs.YtdbceafejbnebaaGreatDoor
open Go Go.RowKit
def fillK (xs : List UInt8) : Nat → List UInt8
  | 0 => zeroK.1
  | k + 1 => (fillK xs k).set k (xs[k]?.getD 0)
theorem fillK_len (xs : List UInt8) : ∀ k, (fillK xs k).length = 32
  | 0 => zeroK.2
  | k + 1 => by rw [fillK, List.length_set, fillK_len xs k]
theorem fillK_get (xs : List UInt8) : ∀ k j, j < k → k ≤ 32 → (fillK xs k)[j]? = some (xs[j]?.getD 0) := by
  intro k
  induction k with
  | zero => intro j h; omega
  | succ k ih =>
    intro j h hk
    rw [fillK]
    by_cases hj : j = k
    · subst hj
      rw [List.getElem?_set_self (by rw [fillK_len]; omega)]
    · rw [List.getElem?_set_ne (Ne.symm hj), ih j (by omega) (by omega)]
theorem fillK_all {xs : List UInt8} (h : xs.length = 32) : fillK xs 32 = xs := by
  apply List.ext_getElem?
  intro j
  by_cases hj : j < 32
  · rw [fillK_get xs 32 j hj (Nat.le_refl _), List.getElem?_eq_getElem (by omega), Option.getD_some]
  · rw [List.getElem?_eq_none (by rw [fillK_len]; omega), List.getElem?_eq_none (by omega)]
def RowY (t : TypeId) (w : World) (g : Nat) (l : List UInt8) : Prop := w.heap[g]? = some (.cells (l.map byteV).toArray t (0, 0))
theorem RowY.set {t : TypeId} {w : World} {g : Nat} {l : List UInt8} (h : RowY t w g l) (i : Nat) (x : UInt8) : RowY t (w.setCell ⟨g, i, none⟩ (byteV x)) g (l.set i x) ∧ Upd [g] w (w.setCell ⟨g, i, none⟩ (byteV x)) := by
  refine ⟨?_, (Upd.refl [g] w).setCell (.inr (by simp)) _⟩
  unfold RowY
  rw [heap_setCell_same h]
  congr 2
  apply Array.ext'
  rw [Array.toList_setIfInBounds, List.toList_toArray, List.map_set]
set_option maxHeartbeats 1000000 in
set_option maxRecDepth 100000 in
theorem ofKey32 {w : World} (g off cap : Nat) (xs : List UInt8) (hx : ∀ j (hj : j < xs.length), w.cell? ⟨g, off + j, none⟩ = some (.int .u8 (xs[j].toNat : Int))) (h32 : xs.length = 32) (hg : g < w.heap.size) :
    Calls Tryz.prog 32 #[.slice (some ⟨g, off, none⟩) 32 cap] w fun e w' => e = .returned (.agg (xs.map byteV).toArray) ∧ Upd [] w w' := by
  have HX := Lib.hid (show _ ∧ _ ∧ _ from ⟨hx, h32, hg⟩)
  clear hx h32 hg
  go_enter Tryz.func32, Tryz.ntmps32
  go_upto_region 2 with fail
  have a1 : (w.alloc (.cells zc.toArray 31)).heap[w.heap.size]? = some (.cells zc.toArray 31 (0, 0)) := heap_alloc_new w _
  have a2 := heap_alloc_new (w.alloc (.cells zc.toArray 31)) (.cells zc.toArray 31)
  have s1 : (w.alloc (.cells zc.toArray 31)).heap.size = w.heap.size + 1 := by simp
  rw [s1] at a2
  have a1' := (Upd.new (w.alloc (.cells zc.toArray 31)) (.cells zc.toArray 31)).heap a1 (by simp)
  have hu : Upd [] w ((w.alloc (.cells zc.toArray 31)).alloc (.cells zc.toArray 31)) := (Upd.new w _).trans (Upd.new _ _)
  change Code.wp _ _ _ _ ((w.alloc (.cells zc.toArray 31)).alloc (.cells zc.toArray 31))
  generalize (w.alloc (.cells zc.toArray 31)).alloc (.cells zc.toArray 31) = w1 at a2 a1' hu ⊢
  obtain ⟨L, hL⟩ : ∃ L, L = w.heap.size := ⟨_, rfl⟩
  rw [← hL] at a2 a1' ⊢
  have HA := Lib.hid (show _ ∧ _ ∧ _ ∧ _ from ⟨a1', a2, hu, hL⟩)
  clear a1 a2 s1 a1' hu hL
  go_wp2
  go_loopw [4] (fun i wr => ∃ k : Nat, i = .int .i64 (k : Int) ∧ k ≤ 32 ∧ Hid (RowY 31 wr (L + 1) (fillK xs k) ∧ Upd [L + 1] w1 wr)) (fun i _ => 32 - (intOf i).toNat)
  case atStart => exact ⟨0, rfl, by omega, Lib.hid ⟨HA.out.2.1, Upd.refl _ _⟩⟩
  case round =>
    obtain ⟨wz, hwz⟩ : ∃ wz, wz = wr := ⟨_, rfl⟩
    rw [← hwz] at hrel ⊢
    clear hwz
    obtain ⟨k, rfl, hk, hR⟩ := hrel
    by_cases hlt : k < 32
    · have hltI : (k : Int) < 32 := by omega
      have hk0 : (0 : Int) ≤ (k : Int) := by omega
      have hkl : k < xs.length := by rw [HX.out.2.1]; exact hlt
      obtain ⟨c, hc⟩ : ∃ c, c = xs[k]?.getD 0 := ⟨_, rfl⟩
      have d1 : wz.cell? ⟨g, off + k, none⟩ = some (.int .u8 (c.toNat : Int)) := by
        rw [cell_same (hR.out.2.block g (Nat.lt_of_lt_of_le HX.out.2.2 HA.out.2.2.1.size) (by have := HX.out.2.2; have := HA.out.2.2.2; simp; omega)), cell_same (HA.out.2.2.1.block g HX.out.2.2 (by simp)), HX.out.1 k hkl, hc, List.getElem?_eq_getElem hkl, Option.getD_some]
      obtain ⟨b0, d2⟩ : ∃ b0 : Int, wz.cell? ⟨L + 1, k, none⟩ = some (.int .u8 b0) := by
        have hkf : k < (fillK xs k).length := by rw [fillK_len]; exact hlt
        refine ⟨((fillK xs k)[k].toNat : Int), ?_⟩
        rw [cell_of_heap hR.out.1]
        simp [hkf, byteV]
      have f2 : wz.frozen? ⟨L + 1, k, none⟩ = false := free_of_heap hR.out.1 k
      have HC := Lib.hid hc
      clear hc hkl
      go_wp2
      go_roundw
      case rel =>
        have hs := hR.out.1.set k c
        refine ⟨k + 1, by simp, by omega, Lib.hid ⟨?_, hR.out.2.trans hs.2⟩⟩
        rw [fillK, ← HC.out]
        exact hs.1
      case measure => simp [intOf]; omega
    · have hkI : (k : Int) = 32 := by omega
      have hkN : k = 32 := by omega
      rw [hkN, fillK_all HX.out.2.1] at hR
      rw [hkI]
      clear hkI hkN hk hlt
      have hL2 : wz.heap[L]? = some (.cells zc.toArray 31 (0, 0)) := hR.out.2.heap HA.out.1 (by simp)
      have HLL := Lib.hid (show _ ∧ wz.heap[L + 1]? = some (.cells (xs.map byteV).toArray 31 (0, 0)) from ⟨hL2, hR.out.1⟩)
      clear hL2
      go_wp2_with (first
        | (refine wpList_load_row rfl 31 (.tmp 3) rfl (L + 1) rfl 31 (xs.map byteV).toArray (0, 0) _ HLL.out.2 Tryz.underlying31 rfl (size31 (by rw [List.length_map]; exact HX.out.2.1)) ?_)
        | (refine wpList_store_row rfl 31 (.tmp 2) (.tmp 15) rfl L (xs.map byteV).toArray rfl rfl 31 zc.toArray HLL.out.1 (size31 (by rw [List.length_map]; exact HX.out.2.1)) (by simp [HX.out.2.1, zc_len]) (oneCells xs) ?_))
      have hb := setRow_heap wz L zc.toArray (xs.map byteV).toArray 31 (0, 0) HLL.out.1
      refine bodyPost_ret (results_cell_row rfl _ _ _ 31 (xs.map byteV).toArray (0, 0) _ rfl hb Tryz.underlying31 rfl (size31 (by rw [List.length_map]; exact HX.out.2.1))) rfl ?_
      have hLw := HA.out.2.2.2
      exact ⟨rfl, (HA.out.2.2.1.trans' hR.out.2 (by intro x hx; rw [List.mem_singleton] at hx; exact .inr (by omega))).setRow (.inl (by omega)) _⟩
end Go.Proofs.YtdbceafejbnebaaGreatDoor
/-! The document's cut: next. -/
namespace Go.Proofs.YtdbceafejbnebaaGreatDoor
open Go Go.RowKit
def CutAt (w : World) (p : Nat) (v : Value) (at' : Int) : Prop := w.heap[p]? = some (.cells #[v, .int .i64 at'] 86 (0, 0))
theorem CutAt.set {w : World} {p : Nat} {v : Value} {x : Int} (h : CutAt w p v x) (y : Int) : CutAt (w.setCell ⟨p, 1, none⟩ (.int .i64 y)) p v y ∧ Upd [p] w (w.setCell ⟨p, 1, none⟩ (.int .i64 y)) := by
  refine ⟨?_, (Upd.refl [p] w).setCell (.inr (by simp)) _⟩
  unfold CutAt
  rw [heap_setCell_same h]
  rfl
set_option maxHeartbeats 1000000 in
theorem cut_has {w : World} {p gx ox cx N : Nat} (a n : Nat) (hc : CutAt w p (.slice (some ⟨gx, ox, none⟩) N cx) a) (h : a + n ≤ N) (hn : 1 ≤ n) (hcx : N ≤ cx) (hN : N ≤ 3000) :
    Calls Tryz.prog 30 #[.pointer (some ⟨p, 0, none⟩), .int .i64 n] w fun e w' => (∃ c, e = .returned (.slice (some ⟨gx, ox + a, none⟩) n c)) ∧ CutAt w' p (.slice (some ⟨gx, ox, none⟩) N cx) ((a + n : Nat) : Int) ∧ Upd [p] w w' := by
  have c0 : w.cell? ⟨p, 0, none⟩ = some (.slice (some ⟨gx, ox, none⟩) N cx) := cell_of_heap hc 0
  have c1 : w.cell? ⟨p, 1, none⟩ = some (.int .i64 a) := cell_of_heap hc 1
  have f1 : w.frozen? ⟨p, 1, none⟩ = false := free_of_heap hc 1
  obtain ⟨b, hb⟩ : ∃ b, b = a + n := ⟨_, rfl⟩
  have z1 : IntKind.i64.wrap ((N : Int) - (a : Int)) = (N : Int) - (a : Int) := IntWalk.i64_in _ (by omega)
  have z2 : decide ((N : Int) - (a : Int) < (n : Int)) = false := by simp; omega
  have z3 : IntKind.i64.wrap ((a : Int) + (n : Int)) = (b : Int) := by rw [IntWalk.i64_in _ (by omega)]; omega
  have z4 : IntKind.i64.wrap ((b : Int) - (n : Int)) = (a : Int) := by rw [IntWalk.i64_in _ (by omega)]; omega
  have z5 : (a : Int) ≤ (b : Int) := by omega
  have z6 : (b : Int) ≤ (cx : Int) := by omega
  have z7 : (0 : Int) ≤ (a : Int) := by omega
  have z8 : b - a = n := by omega
  have z9 : cx ≠ a := by omega
  have z10 : decide ((a : Int) < 0) = false := by simp
  have HC := Lib.hid (show _ ∧ _ from ⟨hc, hb⟩)
  clear hc h hn hcx hN hb
  go_enter Tryz.func30, Tryz.ntmps30
  go_upto_region 1 with fail
  go_quiet (fail)
  obtain ⟨w1, hw1⟩ : ∃ X, w.drewN nq = X := ⟨_, rfl⟩
  have hu1 : Upd [] w w1 := by rw [← hw1]; exact (Upd.refl [] w).drewN nq
  rw [hw1]
  clear hw1
  have hc1 : CutAt w1 p _ _ := hu1.heap HC.out.1 (by simp)
  have d1 : w1.cell? ⟨p, 1, none⟩ = some (.int .i64 a) := cell_of_heap hc1 1
  have g1 : w1.frozen? ⟨p, 1, none⟩ = false := free_of_heap hc1 1
  have HC1 := Lib.hid (show _ ∧ _ from ⟨hc1, hu1⟩)
  clear hc1 hu1 c0 c1 f1
  go_upto_region 5 with fail
  have hs := HC1.out.1.set (b : Int)
  obtain ⟨w2, hw2⟩ : ∃ X, w1.setCell ⟨p, 1, none⟩ (.int .i64 b) = X := ⟨_, rfl⟩
  rw [hw2] at hs ⊢
  clear hw2
  have e0 : w2.cell? ⟨p, 0, none⟩ = some (.slice (some ⟨gx, ox, none⟩) N cx) := cell_of_heap hs.1 0
  have e1 : w2.cell? ⟨p, 1, none⟩ = some (.int .i64 b) := cell_of_heap hs.1 1
  have HS := Lib.hid hs
  clear hs
  go_quiet (fail)
  go_wp2
  go_ret
  have hd := (Upd.refl [] w2).drewN nq
  refine ⟨⟨_, rfl⟩, ?_, ((HC1.out.2.mono (by simp)).trans HS.out.2).trans (hd.mono (by simp))⟩
  rw [← HC.out.2]
  exact hd.heap HS.out.1 (by simp)
set_option maxHeartbeats 1000000 in
theorem cut_few {w : World} {p N cx : Nat} {ad : Option Addr} (x : Int) (n : Nat) (hc : CutAt w p (.slice ad N cx) x) (h : x = -1 ∨ (0 ≤ x ∧ (N : Int) - x < n)) (hN : N ≤ 3000) (hx : x ≤ 3000) (hn : n ≤ 32) :
    Calls Tryz.prog 30 #[.pointer (some ⟨p, 0, none⟩), .int .i64 n] w fun e w' => ∃ g, e = .returned (.slice (some ⟨g, 0, none⟩) n n) ∧ RowB w' g (List.replicate n 0) ∧ w.heap.size ≤ g ∧ CutAt w' p (.slice ad N cx) (-1) ∧ Upd [p] w w' := by
  obtain ⟨i0, hi, hz0, hz1, hz2⟩ := info_parts Tryz.info5
  have c0 : w.cell? ⟨p, 0, none⟩ = some (.slice ad N cx) := cell_of_heap hc 0
  have c1 : w.cell? ⟨p, 1, none⟩ = some (.int .i64 x) := cell_of_heap hc 1
  have HC := Lib.hid (show _ ∧ _ from ⟨hc, hn⟩)
  rcases h with rfl | ⟨hx0, hlt⟩
  · clear hc hN hx
    go_enter Tryz.func30, Tryz.ntmps30
    go_upto_region 1 with fail
    go_quiet (fail)
    obtain ⟨w1, hw1⟩ : ∃ X, w.drewN nq = X := ⟨_, rfl⟩
    have hu1 : Upd [] w w1 := by rw [← hw1]; exact (Upd.refl [] w).drewN nq
    rw [hw1]
    clear hw1
    have hc1 : CutAt w1 p _ _ := hu1.heap HC.out.1 (by simp)
    have d1 : w1.cell? ⟨p, 1, none⟩ = some (.int .i64 (-1)) := cell_of_heap hc1 1
    have g1 : w1.frozen? ⟨p, 1, none⟩ = false := free_of_heap hc1 1
    have HC1 := Lib.hid (show _ ∧ _ from ⟨hc1, hu1⟩)
    clear hc1 hu1 c0 c1
    have hs := HC1.out.1.set (-1)
    obtain ⟨w2, hw2⟩ : ∃ X, w1.setCell ⟨p, 1, none⟩ (.int .i64 (-1)) = X := ⟨_, rfl⟩
    go_upto_region 3 with fail
    rw [hw2] at hs
    clear hw2
    have HS := Lib.hid hs
    clear hs d1 g1
    have hn0 : (0 : Int) ≤ (n : Int) := by omega
    go_wp2_with (at_make; refine wpList_make_full _ rfl _ _ 22 rfl w2.heap.size 5 i0 _ 1 Tryz.underlying22 hi hz0 hz1 _ _ _ _ n rfl rfl rfl rfl (by rw [hz2]; have := HC.out.2; omega) (Nat.le_trans HC.out.2 (by decide)) (Nat.le_refl _) ?_; intro w3 hown3 hgrow3)
    go_ret
    obtain ⟨m1, m2⟩ := made_rowB hown3
    have hu3 : Upd [] w2 w3 := ⟨hgrow3.os, hgrow3.tape, hgrow3.output, hgrow3.size, fun k hk _ => hgrow3.block k hk (by simp)⟩
    have hall : Upd [p] w w2 := (HC1.out.2.mono (by simp)).trans HS.out.2
    exact ⟨w2.heap.size, rfl, m1, hall.size, hu3.heap HS.out.1 (by simp), hall.trans (hu3.mono (by simp))⟩
  · have z1 : IntKind.i64.wrap ((N : Int) - x) = (N : Int) - x := IntWalk.i64_in _ (by omega)
    have z2 : decide ((N : Int) - x < (n : Int)) = true := by simpa using hlt
    have z3 : decide (x < 0) = false := by simp; omega
    clear hc hN hx
    go_enter Tryz.func30, Tryz.ntmps30
    go_upto_region 1 with fail
    go_quiet (fail)
    obtain ⟨w1, hw1⟩ : ∃ X, w.drewN nq = X := ⟨_, rfl⟩
    have hu1 : Upd [] w w1 := by rw [← hw1]; exact (Upd.refl [] w).drewN nq
    rw [hw1]
    clear hw1
    have hc1 : CutAt w1 p _ _ := hu1.heap HC.out.1 (by simp)
    have d1 : w1.cell? ⟨p, 1, none⟩ = some (.int .i64 x) := cell_of_heap hc1 1
    have g1 : w1.frozen? ⟨p, 1, none⟩ = false := free_of_heap hc1 1
    have HC1 := Lib.hid (show _ ∧ _ from ⟨hc1, hu1⟩)
    clear hc1 hu1 c0 c1
    have hs := HC1.out.1.set (-1)
    obtain ⟨w2, hw2⟩ : ∃ X, w1.setCell ⟨p, 1, none⟩ (.int .i64 (-1)) = X := ⟨_, rfl⟩
    go_upto_region 3 with fail
    rw [hw2] at hs
    clear hw2
    have HS := Lib.hid hs
    clear hs d1 g1
    have hn0 : (0 : Int) ≤ (n : Int) := by omega
    go_wp2_with (at_make; refine wpList_make_full _ rfl _ _ 22 rfl w2.heap.size 5 i0 _ 1 Tryz.underlying22 hi hz0 hz1 _ _ _ _ n rfl rfl rfl rfl (by rw [hz2]; have := HC.out.2; omega) (Nat.le_trans HC.out.2 (by decide)) (Nat.le_refl _) ?_; intro w3 hown3 hgrow3)
    go_ret
    obtain ⟨m1, m2⟩ := made_rowB hown3
    have hu3 : Upd [] w2 w3 := ⟨hgrow3.os, hgrow3.tape, hgrow3.output, hgrow3.size, fun k hk _ => hgrow3.block k hk (by simp)⟩
    have hall : Upd [p] w w2 := (HC1.out.2.mono (by simp)).trans HS.out.2
    exact ⟨w2.heap.size, rfl, m1, hall.size, hu3.heap HS.out.1 (by simp), hall.trans (hu3.mono (by simp))⟩
end Go.Proofs.YtdbceafejbnebaaGreatDoor
