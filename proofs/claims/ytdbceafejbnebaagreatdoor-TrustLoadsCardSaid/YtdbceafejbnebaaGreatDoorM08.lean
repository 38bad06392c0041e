/- wire.Out. wire.Out: Fixed, many, keys. wire.PutList. -/
import Derived.Test.YtdbceafejbnebaaGreatDoorM07
import Derived.Deep.AppendLies
/-! wire.Out. -/
namespace Go.Proofs.YtdbceafejbnebaaGreatDoor
open Go Go.RowKit
/-- Block p is an Out that holds xs (in block g), and nothing is wrong. -/
def OutAt (w : World) (p g : Nat) (xs : List UInt8) : Prop :=
  ∃ v, w.heap[p]? = some (.cells #[v, .int .i64 65536, .bool false] 123 (0, 0)) ∧ w.ownsRow 0 5 1 v xs.length (xs.map byteV) ∧ ((v = .slice none 0 0 ∧ g = p) ∨ ∃ n cap, v = .slice (some ⟨g, 0, none⟩) n cap)
theorem OutAt.glt {w : World} {p g : Nat} {xs : List UInt8} (h : OutAt w p g xs) : g < w.heap.size := by
  obtain ⟨v, h1, h2, h3⟩ := h
  rcases h3 with ⟨_, rfl⟩ | ⟨n, cap, rfl⟩
  · exact lt_of_heap h1
  · obtain ⟨_, q | ⟨g', cap', cur, hv, _, hg, _⟩⟩ := h2
    · cases q.1
    · cases hv; exact lt_of_heap hg
def Shows (w : World) (ad : Addr) (ys : List UInt8) : Prop := ∀ j u, (ys.map byteV)[j]? = some u → w.cell? (ad.add j) = some u
theorem setCell_same {w : World} {b : Nat} {cs : Array Value} {t : TypeId} {fz : Nat × Nat} (h : w.heap[b]? = some (.cells cs t fz)) (o : Nat) (v : Value) (hv : cs[o]? = some v) : w.setCell ⟨b, o, none⟩ v = w := by
  have e : (w.setCell ⟨b, o, none⟩ v).heap = w.heap := by
    apply Array.ext_getElem?
    intro k
    by_cases hk : k = b
    · subst hk
      rw [heap_setCell_same h, h]
      congr 2
      apply Array.ext_getElem?
      intro i
      rw [Array.getElem?_setIfInBounds]
      split
      · rename_i hi
        subst hi
        split
        · exact hv.symm
        · rename_i hn
          rw [Array.getElem?_eq_none (by omega)] at hv
          cases hv
      · rfl
    · exact Below.heap_setCell _ _ _ _ hk
  show { w with heap := (w.setCell ⟨b, o, none⟩ v).heap } = w
  rw [e]
set_option maxHeartbeats 1000000 in
theorem put63 {w : World} {p g : Nat} {xs : List UInt8} (ho : OutAt w p g xs) (ad : Addr) (cap : Nat) (ys : List UInt8) (hs : Shows w ad ys) (h0 : 0 < ys.length) (hl : xs.length + ys.length ≤ 65536) :
    Calls Tryz.prog 63 #[.pointer (some ⟨p, 0, none⟩), .slice (some ad) ys.length cap] w fun e w' => e = .returned (.tuple #[]) ∧ ∃ g', OutAt w' p g' (xs ++ ys) ∧ (g' = g ∨ w.heap.size ≤ g') ∧ Upd [p, g] w w' := by
  obtain ⟨v, h1, h2, h3⟩ := ho
  have hv : ∃ a n c, v = .slice a n c ∧ n = xs.length := by
    rcases h3 with ⟨rfl, _⟩ | ⟨n, c, rfl⟩
    · obtain ⟨q1, q2 | ⟨g', cap', cur, hv, _⟩⟩ := h2
      · exact ⟨none, 0, 0, rfl, q2.2.symm⟩
      · cases hv
    · obtain ⟨q1, q2 | ⟨g', cap', cur, hv, _⟩⟩ := h2
      · cases q2.1
      · cases hv; exact ⟨_, _, _, rfl, rfl⟩
  obtain ⟨a, n, c, rfl, rfl⟩ := hv
  have c0 : w.cell? ⟨p, 0, none⟩ = some (.slice a xs.length c) := cell_of_heap h1 0
  have c1 : w.cell? ⟨p, 1, none⟩ = some (.int .i64 65536) := cell_of_heap h1 1
  have c2 : w.cell? ⟨p, 2, none⟩ = some (.bool false) := cell_of_heap h1 2
  have f2 : w.frozen? ⟨p, 2, none⟩ = false := free_of_heap h1 2
  have f0 : w.frozen? ⟨p, 0, none⟩ = false := free_of_heap h1 0
  have hlI : (ys.length : Int) ≤ 65536 - (xs.length : Int) := by omega
  have hd : decide (65536 - (xs.length : Int) < (ys.length : Int)) = false := by simp; omega
  have wk : IntKind.i64.wrap (65536 - (xs.length : Int)) = 65536 - (xs.length : Int) := IntWalk.i64_in _ (by omega)
  have HH := Lib.hid (show _ ∧ _ ∧ _ from ⟨h1, h2, h3⟩)
  have HS := Lib.hid hs
  have HSS := Lib.hid (setCell_same h1 2 (.bool false) rfl)
  have HC := Lib.hid (show w.drew.cell? ⟨p, 0, none⟩ = some (.slice a xs.length c) ∧ w.drew.cell? ⟨p, 1, none⟩ = some (.int .i64 65536) ∧ w.drew.frozen? ⟨p, 2, none⟩ = false ∧ (w.drew.cell? ⟨p, 2, none⟩).isSome = true from ⟨c0, c1, f2, by rw [show w.drew.cell? ⟨p, 2, none⟩ = some (.bool false) from c2]; rfl⟩)
  clear h1 h2 h3 hs
  go_enter Tryz.func63, Tryz.ntmps63
  go_upto_region 1 with fail
  go_region_held (fun w' => w'.cell? ⟨p, 0, none⟩ = some (.slice a xs.length c) ∧ w'.cell? ⟨p, 1, none⟩ = some (.int .i64 65536) ∧ w'.frozen? ⟨p, 2, none⟩ = false ∧ (w'.cell? ⟨p, 2, none⟩).isSome = true) (first | exact HC.out | (rw [HSS.out]; exact HC.out)) (fail)
  rw [HSS.out]
  have hown0 : w.drew.ownsRow 0 5 1 (.slice a xs.length c) xs.length (xs.map byteV) := HH.out.2.1
  have hshow : Shows w.drew ad ys := HS.out
  have HO := Lib.hid (show _ ∧ _ from ⟨hown0, hshow⟩)
  have hm1 : xs.length + ys.length ≤ maxLen := Nat.le_trans hl (by decide)
  have hm2 : (xs.length + ys.length) * 1 ≤ 140737488355328 := by omega
  obtain ⟨i0, hi, hz0, hz1, hz2⟩ := info_parts Tryz.info5
  have hpost : ∀ g1 cap1 w1, w1.ownsRow 0 5 1 (.slice (some ⟨g1, 0, none⟩) (xs.length + ys.length) cap1) (xs.length + ys.length) (xs.map byteV ++ ys.map byteV) → w.drew.grownBy w1 (Value.slice a xs.length c).ownBlock →
      ((Value.slice a xs.length c).ownBlock = some g1 ∨ g1 = w.heap.size) → Hid (w1.heap[p]? = some (.cells #[.slice a xs.length c, .int .i64 65536, .bool false] 123 (0, 0)) ∧
        OutAt (w1.setCell ⟨p, 0, none⟩ (.slice (some ⟨g1, 0, none⟩) (xs.length + ys.length) cap1)) p g1 (xs ++ ys) ∧ (g1 = g ∨ w.heap.size ≤ g1) ∧ Upd [p, g] w (w1.setCell ⟨p, 0, none⟩ (.slice (some ⟨g1, 0, none⟩) (xs.length + ys.length) cap1))) := by
    intro g1 cap1 w1 q1 q2 q3
    obtain ⟨h1, h2, h3⟩ := HH.out
    have hpne : ∀ k, (Value.slice a xs.length c).ownBlock = some k → k ≠ p ∧ k = g := by
      intro k hk
      rcases h3 with ⟨h3, _⟩ | ⟨n, cap', h3⟩
      · rw [h3] at hk; simp [Value.ownBlock] at hk
      · have hk' := hk
        rw [h3] at hk
        simp [Value.ownBlock] at hk
        refine ⟨?_, hk.symm⟩
        intro e
        obtain ⟨_, q | ⟨g', cap'', cur, hv, _, hg, _⟩⟩ := h2
        · rw [h3] at q; cases q.1
        · rw [h3] at hv
          cases hv
          rw [hk, e, h1] at hg
          simp at hg
    have hplt := lt_of_heap h1
    have hp1 : w1.heap[p]? = some (.cells #[.slice a xs.length c, .int .i64 65536, .bool false] 123 (0, 0)) :=
      (q2.block p hplt (fun e => (hpne p e.symm).1 rfl)).trans h1
    have hg1p : g1 ≠ p := by
      rcases q3 with q3 | q3
      · exact (hpne g1 q3).1
      · omega
    have hu : Upd [p, g] w w1 := ⟨q2.os, q2.tape, q2.output, q2.size, fun k hk hS => q2.block k hk (fun e => hS (by have := (hpne k e.symm).2; simp [this]))⟩
    refine Lib.hid ⟨hp1, ⟨_, heap_setCell_same hp1 0 _, ?_, .inr ⟨_, _, rfl⟩⟩, ?_, hu.setCell (.inr (by simp)) _⟩
    · rw [List.length_append, List.map_append]
      obtain ⟨z1, z2 | ⟨g', cap'', cur, hv, hb, hg, z3⟩⟩ := q1
      · cases z2.1
      · cases hv
        exact ⟨z1, .inr ⟨g1, cap1, cur, rfl, hb, (Below.heap_setCell _ _ _ _ hg1p).trans hg, z3⟩⟩
    · rcases q3 with q3 | q3
      · exact .inl (hpne g1 q3).2
      · exact .inr (by omega)
  clear HH hown0 hshow
  go_wp2_with (at_builtin; refine wpList_append_lies _ rfl _ _ 22 rfl 0 5 i0 _ 1 1 Tryz.underlying22 hi hz0 hz1 hz2 rfl (by decide) _ xs.length (xs.map byteV) rfl HO.out.1 ad ys.length cap (ys.map byteV) rfl (by simp) HO.out.2 (by intro u hu; obtain ⟨y, _, rfl⟩ := List.mem_map.1 hu; rfl) h0 hm1 hm2 (Nat.zero_le _) _ rfl ?_; intro g1 cap1 w1 q1 q2 q3 q4; have HP := hpost g1 cap1 w1 q1 q2 q3; have d0 := cell_of_heap HP.out.1 0; have e0 := free_of_heap HP.out.1 0; clear q1 q2 q3 q4)
  go_end0
  exact ⟨rfl, g1, HP.out.2⟩
theorem u8_38 {w : World} {p g : Nat} {xs : List UInt8} (ho : OutAt w p g xs) (ad : Addr) (cap : Nat) (ys : List UInt8) (hs : Shows w ad ys) (h0 : 0 < ys.length) (hl : xs.length + ys.length ≤ 65536) :
    Calls Tryz.prog 38 #[.pointer (some ⟨p, 0, none⟩), .slice (some ad) ys.length cap] w fun e w' => e = .returned (.tuple #[]) ∧ ∃ g', OutAt w' p g' (xs ++ ys) ∧ (g' = g ∨ w.heap.size ≤ g') ∧ Upd [p, g] w w' := by
  have h := put63 ho ad cap ys hs h0 hl
  clear ho hs h0 hl
  go_enter Tryz.func38, Tryz.ntmps38
  go_wp2_with (go_at_call 63; refine h.mono ?_; rintro e w1 ⟨rfl, g1, q1, q2, q3⟩)
  go_end0
  exact ⟨rfl, g1, q1, q2, q3⟩
set_option maxHeartbeats 1000000 in
theorem number79 (n : Nat) (hn : n < 256) (w : World) :
    Calls Tryz.prog 79 #[.int .u16 n, .int .i64 2] w fun e w' => ∃ h cap, e = .returned (.slice (some ⟨h, 0, none⟩) 2 cap) ∧ Shows w' ⟨h, 0, none⟩ [0, UInt8.ofNat n] ∧ w.heap.size ≤ h ∧ Upd [] w w' := by
  obtain ⟨i0, hi, hz0, hz1, hz2⟩ := info_parts Tryz.info5
  have hnI : (n : Int) < 256 := by omega
  have hn0 : (0 : Int) ≤ (n : Int) := by omega
  have hq : (n : Int) / 256 = 0 := by omega
  go_enter Tryz.func79, Tryz.ntmps79
  go_wp2
  refine wp_loop_rounds 3 ?_
  rw [rounds_succ]
  go_wp2_with (first
    | (at_builtin; refine wpList_append_own _ rfl _ _ 22 rfl w.heap.size 5 i0 (.int .u8 0) 1 1 Tryz.underlying22 hi hz0 hz1 hz2 rfl (by decide) _ 0 [] rfl ⟨rfl, .inl ⟨rfl, rfl⟩⟩ _ 1 1 [.int .u8 0] rfl rfl (World.news_of_block (heap_alloc_new _ _)) (by simp [Value.oneCell']) (by decide) (by decide) (by simp) ?_; intro v1 w1 hown1 hgrow1 _))
  rw [rounds_succ]
  have hsz := hgrow1.size
  simp at hsz
  go_wp2_with (first
    | (at_builtin; refine wpList_append_own _ rfl _ _ 22 rfl w.heap.size 5 i0 (.int .u8 0) 1 1 Tryz.underlying22 hi hz0 hz1 hz2 rfl (by decide) _ 1 [.int .u8 0] rfl (hown1.alloc _) _ 1 1 [.int .u8 n] rfl rfl (World.news_of_block (heap_alloc_new _ _)) (by simp [Value.oneCell']) (by decide) (by decide) (by simp; omega) ?_; intro v2 w2 hown2 hgrow2 _))
  rw [rounds_succ]
  go_wp2
  go_ret
  have hg1 : (w.alloc (Obj.cells #[Value.int IntKind.u8 0] 5)).grownBy w1 none := hgrow1
  have hg2 : (w1.alloc (Obj.cells #[Value.int IntKind.u8 ↑n] 5)).grownBy w2 v1.ownBlock := hgrow2
  have hu1 : Upd [] w w1 := (Upd.new w _).trans ⟨hg1.os, hg1.tape, hg1.output, hg1.size, fun k hk _ => hg1.block k hk (by simp)⟩
  obtain ⟨g1, c1, rfl⟩ : ∃ g1 c1, v1 = .slice (some ⟨g1, 0, none⟩) 1 c1 := owns_slice hown1 (by
    intro e
    subst e
    obtain ⟨_, q | ⟨_, _, _, q, _⟩⟩ := hown1
    · have := q.2; omega
    · cases q)
  have hg1b : w.heap.size ≤ g1 := by
    obtain ⟨_, q | ⟨_, _, _, q, q2, _⟩⟩ := hown1
    · cases q.1
    · cases q; exact q2
  have hu2 : Upd [g1] w1 w2 := ((Upd.new w1 _).mono (by simp)).trans ⟨hg2.os, hg2.tape, hg2.output, hg2.size, fun k hk hS => hg2.block k hk (by simp [Value.ownBlock]; intro e; exact hS (by simp [e]))⟩
  have hu : Upd [] w w2 := hu1.trans' hu2 (by intro x hx; rw [List.mem_singleton] at hx; subst hx; exact .inr hg1b)
  obtain ⟨h, cap, rfl⟩ : ∃ h cap, v2 = .slice (some ⟨h, 0, none⟩) 2 cap := owns_slice hown2 (by
    intro e
    subst e
    obtain ⟨_, q | ⟨_, _, _, q, _⟩⟩ := hown2
    · have := q.2; omega
    · cases q)
  obtain ⟨_, q | ⟨_, cp, cur, q, qb, qg, qn, qm, qs, qt⟩⟩ := hown2
  · cases q.1
  · cases q
    refine ⟨h, cap, rfl, ?_, qb, hu⟩
    intro j u hj
    rw [Addr.add_lit, cell_of_heap qg, Nat.zero_add]
    have hjl : j < 2 := by simpa using (List.getElem?_eq_some_iff.1 hj).1
    have e : [Value.int IntKind.u8 0, Value.int IntKind.u8 (n : Int)] = [0, UInt8.ofNat n].map byteV := by
      simp only [List.map_cons, List.map_nil, byteV]
      have : (UInt8.ofNat n).toNat = n := by simp; omega
      rw [this]
      rfl
    have h2 : cur.toList.take (2 * 1) = [0, UInt8.ofNat n].map byteV := by rw [← e]; exact qt
    rw [← h2, List.getElem?_take, if_pos (by omega), Array.getElem?_toList] at hj
    exact hj
end Go.Proofs.YtdbceafejbnebaaGreatDoor
/-! wire.Out: Fixed, many, keys. -/
namespace Go.Proofs.YtdbceafejbnebaaGreatDoor
open Go Go.RowKit
set_option maxHeartbeats 1000000 in
theorem fixed65 {w : World} {p g : Nat} {xs : List UInt8} (ho : OutAt w p g xs) (h c : Nat) (ad : Addr) (cap : Nat) (ys : List UInt8) (hc : w.cell? ⟨h, 0, none⟩ = some (.slice (some ad) ys.length cap)) (hs : Shows w ad ys) (h0 : 0 < ys.length) (hl : xs.length + ys.length ≤ 65536) :
    Calls Tryz.prog 65 #[.pointer (some ⟨p, 0, none⟩), .slice (some ⟨h, 0, none⟩) 1 c] w fun e w' => e = .returned (.tuple #[]) ∧ ∃ g', OutAt w' p g' (xs ++ ys) ∧ (g' = g ∨ w.heap.size ≤ g') ∧ Upd [p, g] w w' := by
  have ht := put63 ho ad cap ys hs h0 hl
  clear ho hs h0 hl
  go_enter Tryz.func65, Tryz.ntmps65
  go_wp2
  refine wp_loop_rounds 2 ?_
  rw [rounds_succ]
  go_wp2_with (go_at_call 63; refine ht.mono ?_; rintro e w1 ⟨rfl, g1, q1, q2, q3⟩)
  rw [rounds_succ]
  go_wp2
  go_end0
  exact ⟨rfl, g1, q1, q2, q3⟩
theorem OutAt.upd {S : List Nat} {w w' : World} {p g : Nat} {xs : List UInt8} (ho : OutAt w p g xs) (hu : Upd S w w') (h1 : p ∉ S) (h2 : g ∉ S) : OutAt w' p g xs := by
  obtain ⟨v, q1, q2, q3⟩ := ho
  refine ⟨v, hu.heap q1 h1, ⟨q2.1, ?_⟩, q3⟩
  rcases q2.2 with q | ⟨g', cap, cur, hv, hb, hg, r⟩
  · exact .inl q
  · refine .inr ⟨g', cap, cur, hv, hb, hu.heap hg ?_, r⟩
    rcases q3 with ⟨rfl, _⟩ | ⟨n, c, rfl⟩
    · cases hv
    · cases hv; exact h2
set_option maxHeartbeats 1000000 in
theorem putKey40 {w : World} {p g : Nat} {xs : List UInt8} (ho : OutAt w p g xs) (k : K) (hl : xs.length + 32 ≤ 65536) :
    Calls Tryz.prog 40 #[.pointer (some ⟨p, 0, none⟩), .agg (keyCells k).toArray] w fun e w' => e = .returned (.tuple #[]) ∧ ∃ g', OutAt w' p g' (xs ++ k.1) ∧ (g' = g ∨ w.heap.size ≤ g') ∧ Upd [p, g] w w' := by
  have hk := k.2
  have hu : Upd [] w ((w.alloc (.cells (keyCells k).toArray 31)).alloc (.cells #[.slice (some ⟨w.heap.size, 0, none⟩) 32 32] 22)) := (Upd.new w _).trans (Upd.new _ _)
  have hb := heap_alloc2_old w (.cells (keyCells k).toArray 31 (0, 0)) (.cells #[.slice (some ⟨w.heap.size, 0, none⟩) 32 32] 22 (0, 0))
  have hc := cell_of_heap (heap_alloc2_new w (.cells (keyCells k).toArray 31 (0, 0)) (.cells #[.slice (some ⟨w.heap.size, 0, none⟩) 32 32] 22 (0, 0))) 0
  have ht := fixed65 (ho.upd hu (by simp) (by simp)) (w.heap.size + 1) 1 ⟨w.heap.size, 0, none⟩ 32 k.1 (by rw [hk]; exact hc)
    (by
      intro j u hj
      rw [Addr.add_lit, cell_of_heap hb, Nat.zero_add]
      simp only [List.getElem?_toArray]
      exact hj) (by omega) (by omega)
  clear ho hb hc hl hk
  go_enter Tryz.func40, Tryz.ntmps40
  go_wp2_with (go_at_call 65; refine ht.mono ?_; rintro e w1 ⟨rfl, g1, q1, q2, q3⟩)
  go_end0
  have hsz := hu.size
  exact ⟨rfl, g1, q1, by omega, (hu.mono (by simp)).trans q3⟩
set_option maxHeartbeats 1000000 in
theorem many64 {w : World} {p g : Nat} {xs : List UInt8} (ho : OutAt w p g xs) (most n : Nat) (hn : n ≤ most) (hm : most ≤ 100) (hl : xs.length + 2 ≤ 65536) :
    Calls Tryz.prog 64 #[.pointer (some ⟨p, 0, none⟩), .int .i64 most, .int .i64 n] w fun e w' => e = .returned (.bool true) ∧ ∃ g', OutAt w' p g' (xs ++ [0, UInt8.ofNat n]) ∧ (g' = g ∨ w.heap.size ≤ g') ∧ Upd [p, g] w w' := by
  have hq : ∀ W, Upd [] w W → Calls Tryz.prog 79 #[.int .u16 n, .int .i64 2] W fun e w' => ∃ h cap, e = .returned (.slice (some ⟨h, 0, none⟩) 2 cap) ∧ Hid (OutAt w' p g xs ∧ Shows w' ⟨h, 0, none⟩ [0, UInt8.ofNat n] ∧ Upd [] w w') := by
    intro W hW
    refine (number79 n (by omega) W).mono ?_
    rintro e w' ⟨h, cap, rfl, q1, q2, q3⟩
    exact ⟨h, cap, rfl, Lib.hid ⟨ho.upd (hW.trans q3) (by simp) (by simp), q1, hW.trans q3⟩⟩
  have hp : ∀ (W : World) (h cap : Nat), Hid (OutAt W p g xs ∧ Shows W ⟨h, 0, none⟩ [0, UInt8.ofNat n] ∧ Upd [] w W) → Calls Tryz.prog 63 #[.pointer (some ⟨p, 0, none⟩), .slice (some ⟨h, 0, none⟩) 2 cap] W fun e w' => e = .returned (.tuple #[]) ∧ ∃ g', w'.cell? ⟨p, 2, none⟩ = some (.bool false) ∧ Hid (OutAt w' p g' (xs ++ [0, UInt8.ofNat n]) ∧ (g' = g ∨ w.heap.size ≤ g') ∧ Upd [p, g] w w') := by
    intro W h cap HH
    obtain ⟨a1, a2, a3⟩ := HH.out
    refine (put63 a1 ⟨h, 0, none⟩ cap [0, UInt8.ofNat n] a2 (by simp) (by simpa using hl)).mono ?_
    rintro e w' ⟨rfl, g', q1, q2, q3⟩
    have hsz := a3.size
    obtain ⟨v, z1, _⟩ := id q1
    exact ⟨rfl, g', cell_of_heap z1 2, Lib.hid ⟨q1, by omega, (a3.mono (by simp)).trans q3⟩⟩
  obtain ⟨v, h1, h2, h3⟩ := ho
  have c2 : w.cell? ⟨p, 2, none⟩ = some (.bool false) := cell_of_heap h1 2
  have f2 : w.frozen? ⟨p, 2, none⟩ = false := free_of_heap h1 2
  have hss := Lib.hid (setCell_same h1 2 (.bool false) rfl)
  have hnI : (n : Int) ≤ (most : Int) := by omega
  have hmI : (most : Int) ≤ 100 := by omega
  have hdd : decide (min (most : Int) 65535 < (n : Int)) = false := by simp; omega
  have wk : IntKind.u16.wrap (n : Int) = (n : Int) := IntWalk.u16_in _ (by omega)
  clear h1 h2 h3 hn hm hl
  go_enter Tryz.func64, Tryz.ntmps64
  go_upto_region 4 with fail
  rw [hss.out]
  have hq0 := hq w (Upd.refl [] w)
  clear hq c2 f2 hdd
  go_wp2_with (first
    | (go_at_call 79; refine hq0.mono ?_; clear hq0; rintro e w1 ⟨h, cap, rfl, HH⟩; have hp1 := hp w1 h cap HH)
    | (go_at_call 63; refine hp1.mono ?_; rintro e w2 ⟨rfl, g2, d2, HG⟩; clear hp1))
  go_ret
  exact ⟨rfl, g2, HG.out⟩
end Go.Proofs.YtdbceafejbnebaaGreatDoor
/-! wire.PutList. -/
namespace Go.Proofs.YtdbceafejbnebaaGreatDoor
open Go Go.RowKit
def lenB (n : Nat) : List UInt8 := [0, UInt8.ofNat n]
def keysB (l : List K) : List UInt8 := l.flatMap (·.1)
theorem keysB_len (l : List K) : (keysB l).length = l.length * 32 := by
  unfold keysB
  induction l with
  | nil => rfl
  | cons k l ih => rw [List.flatMap_cons, List.length_append, ih, k.2, List.length_cons]; omega
set_option maxHeartbeats 2000000 in
theorem putList39 {w : World} {p g : Nat} {xs : List UInt8} (ho : OutAt w p g xs) (most gk cap : Nat) (l : List K) (hr : RowK w gk cap l) (hm : most ≤ 100) (hn : l.length ≤ most) (hl : xs.length + 2 + l.length * 32 ≤ 65536) (hne : gk ≠ g) :
    Calls Tryz.prog 39 #[.pointer (some ⟨p, 0, none⟩), .int .i64 most, .slice (some ⟨gk, 0, none⟩) l.length cap, .func (.func 40) #[] #[]] w fun e w' => e = .returned (.tuple #[]) ∧ ∃ g', OutAt w' p g' (xs ++ lenB l.length ++ keysB l) ∧ (g' = g ∨ w.heap.size ≤ g') ∧ Upd [p, g] w w' := by
  have h64 := many64 ho most l.length hn hm (by omega)
  obtain ⟨v, h1, h2, h3⟩ := id ho
  have c2 : w.cell? ⟨p, 2, none⟩ = some (.bool false) := cell_of_heap h1 2
  have f2 : w.frozen? ⟨p, 2, none⟩ = false := free_of_heap h1 2
  have hss := Lib.hid (setCell_same h1 2 (.bool false) rfl)
  have hkp : gk ≠ p := by
    obtain ⟨sp, q, _⟩ := hr
    intro e
    rw [e, h1] at q
    simp at q
  have hfn : ∀ W, (binOp .eql 96 (.func (.func 40) #[] #[]) .nilFunc).run Tryz.prog W = .ok (.bool false) W := fun W => by kernel_rfl
  have hmI : (most : Int) ≤ 100 := by omega
  have hm0 : (0 : Int) ≤ (most : Int) := by omega
  have hmd : decide ((most : Int) < 0) = false := by simp
  have hnI : (l.length : Int) ≤ 100 := by omega
  have HR := Lib.hid hr
  have HL := Lib.hid hl
  clear ho hr hl h1 h2 h3
  go_enter Tryz.func39, Tryz.ntmps39
  go_upto_region 2 with fail
  rw [hss.out]
  clear c2 f2
  go_wp2_with (go_at_call 64; refine h64.mono ?_; clear h64; rintro e w1 ⟨rfl, g1, q1, q2, q3⟩; have HQ := Lib.hid (show _ ∧ _ ∧ _ from ⟨q1, q2, q3⟩); clear q1 q2 q3)
  go_loopw [35] (fun i wr => ∃ k g2 : Nat, i = .int .i64 (k : Int) ∧ k ≤ l.length ∧ Hid (OutAt wr p g2 (xs ++ lenB l.length ++ keysB (l.take k)) ∧ (g2 = g ∨ w.heap.size ≤ g2) ∧ Upd [p, g] w wr)) (fun i _ => l.length - (intOf i).toNat)
  case atStart =>
    refine ⟨0, g1, rfl, by omega, Lib.hid ⟨?_, HQ.out.2⟩⟩
    have := HQ.out.1
    rw [List.take_zero]
    simpa [keysB, lenB] using this
  case round =>
    obtain ⟨k, g2, rfl, hk, hI⟩ := hrel
    by_cases hlt : k < l.length
    · have hltI : (k : Int) < (l.length : Int) := by omega
      obtain ⟨i1, i2, i3⟩ := hI.out
      have hrr := (HR.out.upd i3 (by simp [hkp, hne])).range k hlt
      obtain ⟨lk, hlk⟩ : ∃ lk, lk = l[k] := ⟨_, rfl⟩
      rw [← hlk] at hrr
      have ha : (wr.alloc (.cells zc.toArray 31)).heap[wr.heap.size]? = some (.cells zc.toArray 31 (0, 0)) := heap_alloc_new wr _
      have hb := setRow_heap (wr.alloc (.cells zc.toArray 31)) wr.heap.size zc.toArray (keyCells lk).toArray 31 (0, 0) ha
      have hu : Upd [] wr ((wr.alloc (.cells zc.toArray 31)).setRow wr.heap.size (keyCells lk).toArray) := (Upd.new wr _).setRow (.inl (Nat.le_refl _)) _
      have hlen : (xs ++ lenB l.length ++ keysB (l.take k)).length + 32 ≤ 65536 := by
        have := HL.out
        rw [List.length_append, List.length_append, keysB_len, List.length_take]
        simp only [lenB, List.length_cons, List.length_nil]
        omega
      have hcall := putKey40 (i1.upd hu (by simp) (by simp)) lk hlen
      have HK := Lib.hid (show _ ∧ _ ∧ _ from ⟨hlk, hrr, hu⟩)
      have HA := Lib.hid ha
      have HB := Lib.hid hb
      clear hlk hrr hu ha hb hlen i1 i2 i3
      go_wp2_with (first
        | (refine wpList_load_mid rfl 31 _ rfl gk (k * 32) rfl (keyCells lk) _ HK.out.2.1 Tryz.underlying31 rfl (hu31 _) ?_)
        | (refine wpList_store_row rfl 31 _ _ rfl wr.heap.size (keyCells lk).toArray rfl rfl 31 zc.toArray HA.out (size31 (keyCells_len lk)) (by simp [keyCells_len, zc_len]) (keyCells_all lk) ?_)
        | (refine wpList_load_row rfl 31 _ rfl wr.heap.size rfl 31 (keyCells lk).toArray (0, 0) _ HB.out Tryz.underlying31 rfl (size31 (keyCells_len lk)) ?_)
        | (go_at_call 40; refine hcall.mono ?_; rintro e w2 ⟨rfl, g3, q1, q2, q3⟩; have HG := Lib.hid (show _ ∧ _ ∧ _ from ⟨q1, q2, q3⟩); clear q1 q2 q3 hcall))
      go_roundw
      case rel =>
        obtain ⟨i1, i2, i3⟩ := hI.out
        obtain ⟨e1, _, hu⟩ := HK.out
        obtain ⟨q1, q2, q3⟩ := HG.out
        refine ⟨k + 1, g3, rfl, by omega, Lib.hid ⟨?_, ?_, ?_⟩⟩
        · have e : keysB (l.take (k + 1)) = keysB (l.take k) ++ lk.1 := by
            unfold keysB
            rw [← List.take_append_getElem hlt, List.flatMap_append, e1]
            simp
          rw [e, ← List.append_assoc]
          exact q1
        · have s1 := i3.size
          have s2 := hu.size
          omega
        · refine (i3.trans (hu.mono (by simp))).trans' q3 ?_
          intro x hx
          have s1 := i3.size
          simp only [List.mem_cons, List.not_mem_nil, or_false] at hx ⊢
          omega
      case measure => simp [intOf]; omega
    · obtain rfl : k = l.length := by omega
      go_wp2
      go_end0
      refine ⟨rfl, g2, ?_⟩
      have := hI.out
      rw [List.take_length] at this
      exact this
def knB (x : Kn) : List UInt8 := x.1 :: x.2.1
set_option maxHeartbeats 1000000 in
theorem putKn44 {w : World} {p g : Nat} {xs : List UInt8} (ho : OutAt w p g xs) (x : Kn) (hl : xs.length + 33 ≤ 65536) :
    Calls Tryz.prog 44 #[.pointer (some ⟨p, 0, none⟩), .agg (knCells x).toArray] w fun e w' => e = .returned (.tuple #[]) ∧ ∃ g', OutAt w' p g' (xs ++ knB x) ∧ (g' = g ∨ w.heap.size ≤ g') ∧ Upd [p, g] w w' := by
  obtain ⟨d, k⟩ := x
  have hu0 : Upd [] w (w.alloc (.cells (knCells (d, k)).toArray 73)) := Upd.new w _
  have hg := ho.glt
  have hp : p < w.heap.size := by obtain ⟨v, h1, _⟩ := ho; exact lt_of_heap h1
  have hb0 : (w.alloc (.cells (knCells (d, k)).toArray 73)).heap[w.heap.size]? = some (.cells (knCells (d, k)).toArray 73 (0, 0)) := heap_alloc_new w _
  have hc0 : (w.alloc (.cells (knCells (d, k)).toArray 73)).cell? ⟨w.heap.size, 0, none⟩ = some (.int .u8 (d.toNat : Int)) := cell_of_heap hb0 0
  have hu1 : Upd [] w ((w.alloc (.cells (knCells (d, k)).toArray 73)).alloc (.cells #[.int .u8 (d.toNat : Int)] 5)) := hu0.alloc _
  have hbs := heap_alloc2_new w (.cells (knCells (d, k)).toArray 73 (0, 0)) (.cells #[.int .u8 (d.toNat : Int)] 5 (0, 0))
  have h38 := u8_38 (ho.upd hu1 (by simp) (by simp)) ⟨w.heap.size + 1, 0, none⟩ 1 [d] (World.news_of_block hbs) (by simp) (by simp; omega)
  have h40 : ∀ w1 g1, Hid (OutAt w1 p g1 (xs ++ [d]) ∧ (g1 = g ∨ w.heap.size ≤ g1) ∧ Upd [p, g] w w1) → Calls Tryz.prog 40 #[.pointer (some ⟨p, 0, none⟩), .agg (keyCells k).toArray] w1 fun e w' => e = .returned (.tuple #[]) ∧ ∃ g', Hid (OutAt w' p g' (xs ++ knB (d, k)) ∧ (g' = g ∨ w.heap.size ≤ g') ∧ Upd [p, g] w w') := by
    intro w1 g1 H
    obtain ⟨q1, q2, q3⟩ := H.out
    refine (putKey40 q1 k (by simp; omega)).mono ?_
    rintro e w2 ⟨rfl, g', z1, z2, z3⟩
    have s1 := q3.size
    refine ⟨rfl, g', Lib.hid ⟨?_, ?_, ?_⟩⟩
    · rw [List.append_assoc] at z1; exact z1
    · omega
    · refine q3.trans' z3 ?_
      intro y hy
      simp only [List.mem_cons, List.not_mem_nil, or_false] at hy ⊢
      omega
  have hbx : ∀ w1, Upd [p, g] ((w.alloc (.cells (knCells (d, k)).toArray 73)).alloc (.cells #[.int .u8 (d.toNat : Int)] 5)) w1 → Hid (w1.rangeAt w.heap.size 1 (keyCells k)) := by
    intro w1 h
    have q := h.heap (heap_alloc2_old w (.cells (knCells (d, k)).toArray 73 (0, 0)) (.cells #[.int .u8 (d.toNat : Int)] 5 (0, 0))) (by simp; omega)
    refine Lib.hid ?_
    intro j v hj
    rw [cell_of_heap q]
    simp only [List.getElem?_toArray, knCells]
    rw [show 1 + j = j + 1 by omega, List.getElem?_cons_succ]
    exact hj
  have HU := Lib.hid hu1
  clear ho hl hu0 hu1 hb0 hbs hp
  go_enter Tryz.func44, Tryz.ntmps44
  go_wp2_with (first
    | (go_at_call 38; refine h38.mono ?_; clear h38; rintro e w1 ⟨rfl, g1, q1, q2, q3⟩; have hx1 := hbx w1 q3; have HG : Hid (OutAt w1 p g1 (xs ++ [d]) ∧ (g1 = g ∨ w.heap.size ≤ g1) ∧ Upd [p, g] w w1) := Lib.hid ⟨q1, (by have := HU.out.size; omega), (HU.out.mono (by simp)).trans q3⟩; have hq40 := h40 w1 g1 HG; clear q1 q2 q3)
    | (refine wpList_load_mid rfl 31 _ rfl w.heap.size 1 rfl (keyCells k) _ hx1.out Tryz.underlying31 rfl (hu31 _) ?_)
    | (go_at_call 40; refine hq40.mono ?_; clear hq40; rintro e w2 ⟨rfl, g2, H2⟩))
  go_end0
  exact ⟨rfl, g2, H2.out⟩
end Go.Proofs.YtdbceafejbnebaaGreatDoor
