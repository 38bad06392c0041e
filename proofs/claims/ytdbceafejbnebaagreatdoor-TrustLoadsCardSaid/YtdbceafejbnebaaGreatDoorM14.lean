/- sha: a sum of a text that goes into one block. -/
import Derived.Test.YtdbceafejbnebaaGreatDoorM13
import Derived.ArgAppend
namespace Go.Proofs.YtdbceafejbnebaaGreatDoor
open Go Go.RowKit
def byteOf (x : Int) : UInt8 := UInt8.ofNat (x % 256).toNat
theorem byteOf_V (x : Int) : Value.int .u8 (x % 256) = byteV (byteOf x) := by
  unfold byteV byteOf
  have h0 : 0 ≤ x % 256 := Int.emod_nonneg _ (by decide)
  have h1 : x % 256 < 256 := Int.emod_lt_of_pos _ (by decide)
  rw [UInt8.toNat_ofNat']
  congr 1
  omega
/-- The length's bytes, k of them laid. -/
def lenF (n : Int) : Nat → List UInt8
  | 0 => List.replicate 16 0
  | i + 1 => (lenF n i).set (15 - i) (byteOf (IntKind.u64.wrap (n * 8) / 2 ^ (8 * i)))
theorem lenF_len (n : Int) : ∀ k, (lenF n k).length = 16
  | 0 => by simp [lenF]
  | k + 1 => by rw [lenF, List.length_set, lenF_len n k]
def padF (xs : List UInt8) : List UInt8 := xs ++ [128] ++ List.replicate (111 - xs.length) 0 ++ lenF xs.length 8
theorem padF_len {xs : List UInt8} (h : xs.length ≤ 111) : (padF xs).length = 128 := by
  unfold padF
  rw [List.length_append, List.length_append, List.length_append, lenF_len, List.length_replicate]
  simp; omega
def wordB (x : Int) (j : Nat) : List UInt8 := (List.range j).map fun i => byteOf (x / 2 ^ (8 * (7 - i)))
def outF (hs : List Int) : List UInt8 := hs.flatMap fun x => wordB x 8
def sumF (hs ks : List Int) (xs : List UInt8) : List UInt8 := outF (blockF hs ks (padF xs))
/-- A text that comes to a sum: where it lies. -/
abbrev Pc := Nat × Nat × Nat × List UInt8
def pcV (x : Pc) : Value := .slice (some ⟨x.1, x.2.1, none⟩) x.2.2.2.length x.2.2.1
def pcT (l : List Pc) : List UInt8 := l.flatMap (·.2.2.2)
def lenOfV : Value → Nat
  | .slice _ n _ => n
  | _ => 0
theorem owns_some {w : World} {base size n : Nat} {e : TypeId} {v : Value} {xs : List Value} (h : w.ownsRow base e size v n xs) (hn : 0 < n) : ∃ g cap, v = .slice (some ⟨g, 0, none⟩) n cap ∧ base ≤ g ∧ n ≤ cap := by
  obtain ⟨_, ⟨_, q⟩ | ⟨g, cap, cur, rfl, hb, _, hc, _⟩⟩ := h
  · omega
  · exact ⟨g, cap, rfl, hb, hc⟩
theorem owns_block {w : World} {base size n : Nat} {e : TypeId} {v : Value} {xs : List Value} (h : w.ownsRow base e size v n xs) : ∀ k, v.ownBlock = some k → base ≤ k := by
  intro k hk
  obtain ⟨_, ⟨rfl, q⟩ | ⟨g, cap, cur, rfl, hb, _⟩⟩ := h
  · cases hk
  · cases hk; exact hb
theorem owns_cells {w : World} {base n g cap : Nat} {e : TypeId} {xs : List Value} (h : w.ownsRow base e 1 (.slice (some ⟨g, 0, none⟩) n cap) n xs) (j : Nat) (u : Value) (hj : xs[j]? = some u) : w.cell? ⟨g, j, none⟩ = some u := by
  obtain ⟨hl, ⟨q, _⟩ | ⟨g', cap', cur, hv, hb, hg, hc, hm, hs, ht⟩⟩ := h
  · cases q
  · cases hv
    rw [Nat.mul_one] at ht
    rw [← ht] at hj
    have hjn : j < n := by
      have := (List.getElem?_eq_some_iff.1 hj).1
      rw [List.length_take] at this
      omega
    rw [List.getElem?_take_of_lt hjn] at hj
    rw [cell_of_heap hg, ← hj, Array.getElem?_toList]
theorem owns_lt {w : World} {base size n g cap : Nat} {e : TypeId} {xs : List Value} (h : w.ownsRow base e size (.slice (some ⟨g, 0, none⟩) n cap) n xs) : g < w.heap.size := by
  obtain ⟨hl, ⟨q, _⟩ | ⟨g', cap', cur, hv, hb, hg, _⟩⟩ := h
  · cases q
  · cases hv; exact lt_of_heap hg
theorem alloc_cells {w : World} {g : Nat} (hg : g < w.heap.size) {xs : List Value} (h : ∀ j u, xs[j]? = some u → w.cell? ⟨g, j, none⟩ = some u) (o : Obj) (b : Addr) (hb : some (⟨g, 0, none⟩ : Addr) = some b) (j : Nat) (u : Value) (hj : xs[j]? = some u) : (w.alloc o).cell? (b.add j) = some u := by
  cases hb
  rw [Addr.add_lit, Nat.zero_add, cell_same (Below.heap_alloc _ _ _ hg)]
  exact h j u hj
theorem new_cells {w : World} {xs : List Value} (t : TypeId) (j : Nat) (u : Value) (hj : xs[j]? = some u) : (w.alloc (.cells xs.toArray t)).cell? ((⟨w.heap.size, 0, none⟩ : Addr).add j) = some u := by
  rw [Addr.add_lit, Nat.zero_add, cell_of_heap (heap_alloc_new w _), List.getElem?_toArray]
  exact hj
def RowB (w : World) (g : Nat) (l : List UInt8) : Prop := w.heap[g]? = some (.cells (l.map byteV).toArray 5 (0, 0))
theorem RowB.set {w : World} {g : Nat} {l : List UInt8} (h : RowB w g l) (i : Nat) (x : UInt8) : RowB (w.setCell ⟨g, i, none⟩ (byteV x)) g (l.set i x) ∧ Upd [g] w (w.setCell ⟨g, i, none⟩ (byteV x)) := by
  refine ⟨?_, (Upd.refl [g] w).setCell (.inr (by simp)) _⟩
  unfold RowB
  rw [heap_setCell_same h]
  congr 2
  apply Array.ext'
  rw [Array.toList_setIfInBounds, List.toList_toArray, List.map_set]
theorem RowB.at {w : World} {g : Nat} {l : List UInt8} (h : RowB w g l) (i : Nat) (hi : i < l.length) : w.cell? ⟨g, i, none⟩ = some (byteV l[i]) := by
  rw [cell_of_heap h]
  simp [hi]
theorem made_rowB {w : World} {g n : Nat} {base : Nat} (h : w.ownsRow base 5 1 (.slice (some ⟨g, 0, none⟩) n n) n (madeCells (Value.int .u8 0).cells (n * 1)).toList) : RowB w g (List.replicate n 0) ∧ base ≤ g := by
  obtain ⟨_, ⟨q, _⟩ | ⟨g', cap', cur, hv, hb, hg, h1, h2, h3, h4⟩⟩ := h
  · cases q
  · cases hv
    refine ⟨?_, hb⟩
    have e : cur = ((List.replicate n (0 : UInt8)).map byteV).toArray := by
      apply Array.ext'
      rw [List.toList_toArray]
      rw [List.take_of_length_le (by simp; omega)] at h4
      rw [h4]
      apply List.ext_getElem
      · simp [madeCells]
      · intro i hi1 hi2
        simp [madeCells, Value.cells, byteV, Nat.mod_one]
    unfold RowB
    rw [← e]
    exact hg
theorem owns_same {w w' : World} {base size n g cap : Nat} {e : TypeId} {xs : List Value} (h : w.ownsRow base e size (.slice (some ⟨g, 0, none⟩) n cap) n xs) (he : w'.heap[g]? = w.heap[g]?) : w'.ownsRow base e size (.slice (some ⟨g, 0, none⟩) n cap) n xs := by
  obtain ⟨hl, ⟨q, _⟩ | ⟨g', cap', cur, hv, hb, hg, r⟩⟩ := h
  · cases q
  · cases hv; exact ⟨hl, .inr ⟨g, cap, cur, rfl, hb, he.trans hg, r⟩⟩
theorem wordB_succ (x : Int) (j : Nat) : wordB x (j + 1) = wordB x j ++ [byteOf (x / 2 ^ (8 * (7 - j)))] := by
  unfold wordB
  rw [List.range_succ, List.map_append]
  rfl
theorem wordB_len (x : Int) (j : Nat) : (wordB x j).length = j := by simp [wordB]
theorem outF_len (l : List Int) : (outF l).length = 8 * l.length := by
  unfold outF
  induction l with
  | nil => rfl
  | cons x l ih => rw [List.flatMap_cons, List.length_append, ih, wordB_len, List.length_cons]; omega
theorem outF_take {l : List Int} {k : Nat} (hk : k < l.length) : outF (l.take (k + 1)) = outF (l.take k) ++ wordB l[k] 8 := by
  unfold outF
  rw [← List.take_append_getElem hk, List.flatMap_append]
  simp
theorem pcT_take {ps : List Pc} {k : Nat} (hk : k < ps.length) : pcT (ps.take (k + 1)) = pcT (ps.take k) ++ ps[k].2.2.2 := by
  unfold pcT
  rw [← List.take_append_getElem hk, List.flatMap_append]
  simp
theorem pcT_le {ps : List Pc} (k : Nat) : (pcT (ps.take k)).length ≤ (pcT ps).length := by
  have e : pcT ps = pcT (ps.take k) ++ pcT (ps.drop k) := by
    unfold pcT
    rw [← List.flatMap_append, List.take_append_drop]
  rw [e, List.length_append]
  omega
set_option maxHeartbeats 4000000 in
set_option maxRecDepth 100000 in
theorem sum84 {w : World} {p gh gk : Nat} {hs ks : List Int} {ch ck : Nat} (hm : MachAt w p (.slice (some ⟨gh, 0, none⟩) 8 ch) (.slice (some ⟨gk, 0, none⟩) 80 ck)) (hh : RowU w gh hs) (hk : RowU w gk ks) (h8 : hs.length = 8) (k80 : ks.length = 80)
    (gl cap : Nat) (ps : List Pc) (hl : w.heap[gl]? = some (.cells (ps.map pcV).toArray 22 (0, 0)))
    (hps : ∀ x ∈ ps, Shows w ⟨x.1, x.2.1, none⟩ x.2.2.2 ∧ 0 < x.2.2.2.length ∧ x.1 < w.heap.size) (hsum : (pcT ps).length ≤ 111) (hn : ps.length ≤ 10) (hne : 0 < (pcT ps).length) :
    Calls Tryz.prog 84 #[.pointer (some ⟨p, 0, none⟩), .slice (some ⟨gl, 0, none⟩) ps.length cap] w fun e w' =>
      ∃ v, e = .returned v ∧ w'.ownsRow w.heap.size 5 1 v 64 ((sumF hs ks (pcT ps)).map byteV) ∧ Upd [gh] w w' := by
  have c2 : w.cell? ⟨p, 2, none⟩ = some (.int .i64 8) := cell_of_heap hm 2
  have HM := Lib.hid (show _ ∧ _ ∧ _ ∧ _ ∧ _ ∧ _ ∧ _ ∧ _ from ⟨hm, hh, hk, h8, k80, hl, hps, hsum⟩)
  have HN := Lib.hid hne
  clear hm hh hk h8 k80 hl hps hsum hne
  have hnI : (ps.length : Int) ≤ 10 := by omega
  obtain ⟨i0, hi, hz0, hz1, hz2⟩ := info_parts Tryz.info5
  go_enter Tryz.func84, Tryz.ntmps84
  go_wp2
  go_loopw [23, 6, 7] (fun i v n wr => ∃ k : Nat, i = .int .i64 (k : Int) ∧ k ≤ ps.length ∧ n = .int .u64 ((pcT (ps.take k)).length : Int) ∧ IsSl v ∧ Hid (wr.ownsRow w.heap.size 5 1 v (pcT (ps.take k)).length ((pcT (ps.take k)).map byteV) ∧ Upd [] w wr)) (fun i _ _ _ => ps.length - (intOf i).toNat)
  case atStart => exact ⟨0, rfl, by omega, by simp [pcT], ⟨none, 0, 0, rfl⟩, Lib.hid ⟨World.ownsRow_nil w _ 5 1, Upd.refl _ _⟩⟩
  case round =>
    obtain ⟨k, rfl, hk, rfl, ⟨va, vn, vc, rfl⟩, hR⟩ := hrel
    by_cases hlt : k < ps.length
    · have hltI : (k : Int) < (ps.length : Int) := by omega
      have hk0 : (0 : Int) ≤ (k : Int) := by omega
      obtain ⟨⟨xg, xo, xc, xt⟩, hx⟩ : ∃ x, x = ps[k] := ⟨_, rfl⟩
      have hT := pcT_take hlt
      rw [← hx] at hT
      obtain ⟨hm, hh, hk', h8, k80, hl, hps, hsum⟩ := HM.out
      obtain ⟨r1, r2⟩ := hR.out
      obtain ⟨s1, s2, s3⟩ := hps (xg, xo, xc, xt) (by rw [hx]; exact List.getElem_mem hlt)
      have hlr := r2.heap hl (by simp)
      have hsh : Shows wr ⟨xg, xo, none⟩ xt := fun j u hj => by
        have q := s1 j u hj
        rw [Addr.add_lit] at q ⊢
        rw [cell_same (r2.block xg s3 (by simp))]
        exact q
      have hle := pcT_le (ps := ps) (k + 1)
      rw [hT, List.length_append] at hle
      have dx : wr.cell? ⟨gl, k, none⟩ = some (.slice (some ⟨xg, xo, none⟩) xt.length xc) := by
        rw [cell_of_heap hlr]
        simp [hlt, ← hx, pcV]
      obtain ⟨T, hTT⟩ : ∃ T, T = pcT (ps.take k) := ⟨_, rfl⟩
      rw [← hTT] at r1 hT hle ⊢
      have s2' : 0 < xt.length := s2
      have hsum2 : T.length + xt.length ≤ 111 := Nat.le_trans hle hsum
      have z1 : IntKind.u64.wrap (xt.length : Int) = (xt.length : Int) := IntWalk.u64_in _ (by omega)
      have z2 : IntKind.u64.wrap ((T.length : Int) + (xt.length : Int)) = (T.length : Int) + (xt.length : Int) := IntWalk.u64_in _ (by omega)
      have z3 : (T.length : Int) + (xt.length : Int) < 128 := by omega
      have HK := Lib.hid (show _ ∧ _ ∧ _ ∧ _ ∧ _ ∧ _ ∧ _ from ⟨r1, r2, hsh, hT, hTT, s2', hsum2⟩)
      clear hx hT hm hh hk' h8 k80 hl hps hsum r1 r2 s1 s2 s3 hlr hsh hle hTT s2' hsum2
      go_wp2_with (at_builtin; refine wpList_append_own _ rfl _ _ 22 rfl w.heap.size 5 i0 (.int .u8 0) 1 1 Tryz.underlying22 hi hz0 hz1 hz2 rfl (by decide) _ T.length _ rfl HK.out.1 ⟨xg, xo, none⟩ xt.length xc (xt.map byteV) rfl (by simp) HK.out.2.2.1 (byteV_one xt) (by have := HK.out.2.2.2.2.2.2; simp only [maxLen]; omega) (by have := HK.out.2.2.2.2.2.2; omega) HK.out.2.1.size ?_; intro v1 w1 q1 q2 q3; obtain ⟨g1, cap1, rfl, hb1, hc1⟩ := owns_some q1 (by have := HK.out.2.2.2.2.2.1; omega); have HQ := Lib.hid (show _ ∧ _ from ⟨q1, q2⟩); clear q1 q2 q3)
      refine wp_loop_rounds 1 ?_
      rw [rounds_succ]
      go_wp2
      go_roundw
      case rel =>
        obtain ⟨r1, r2, hsh, hT, hTT, s2', hsum2⟩ := HK.out
        obtain ⟨q1, q2⟩ := HQ.out
        refine ⟨k + 1, by simp, by omega, ?_, ⟨_, _, _, rfl⟩, Lib.hid ⟨?_, upd_grown r2 q2 (owns_block r1)⟩⟩
        · rw [hT, List.length_append]
          simp
        · rw [hT, List.length_append, List.map_append]
          exact q1
      case measure => simp [intOf]; omega
    · have hkN : k = ps.length := by omega
      have hkI : (k : Int) = (ps.length : Int) := by omega
      rw [hkN] at hR
      rw [hkI, hkN]
      clear hkN hkI hk hlt
      rw [List.take_of_length_le (Nat.le_refl _)] at hR ⊢
      obtain ⟨X, hX⟩ : ∃ X, X = pcT ps := ⟨_, rfl⟩
      have hXl : 0 < X.length ∧ X.length ≤ 111 := by rw [hX]; exact ⟨HN.out, HM.out.2.2.2.2.2.2.2⟩
      rw [← hX] at hR ⊢
      obtain ⟨g1, cap1, e1, hb1, hc1⟩ := owns_some hR.out.1 hXl.1
      rw [e1] at hR ⊢
      have hc1I : (X.length : Int) ≤ (cap1 : Int) := by omega
      have hx0 : (0 : Int) ≤ (X.length : Int) := by omega
      have HX := Lib.hid (show _ ∧ _ ∧ _ ∧ _ from ⟨hX, hXl, hb1, hc1⟩)
      clear hX hXl e1 hb1 hc1
      have hrc := alloc_cells (owns_lt hR.out.1) (owns_cells hR.out.1) (.cells #[byteV 128] 5 (0, 0))
      have HRC := Lib.hid (show _ ∧ _ from ⟨hrc, new_cells (w := wr) (xs := [byteV 128]) 5⟩)
      clear hrc
      go_wp2_with (at_builtin; refine wpList_append_grows _ rfl _ _ 22 rfl 5 i0 (.int .u8 0) 1 1 Tryz.underlying22 hi hz0 hz1 hz2 rfl (by decide) (some ⟨g1, 0, none⟩) X.length X.length (X.map byteV) rfl (by simp) (by simp) HRC.out.1 ⟨wr.heap.size, 0, none⟩ 1 1 [byteV 128] rfl rfl HRC.out.2 (byteV_one [128]) (by omega) (by have := HX.out.2.1.2; simp only [maxLen]; omega) (by have := HX.out.2.1.2; omega) ?_; intro v2 w2 q1 q2; have hsl2 := owns_isSl q1; have HQ2 := Lib.hid (show _ ∧ _ from ⟨q1, q2⟩); clear q1 q2)
      have hv2 : w2.ownsRow w.heap.size 5 1 v2 (X.length + 1) ((X ++ [128]).map byteV) ∧ Upd [] w w2 := by
        obtain ⟨q1, q2⟩ := HQ2.out
        have hu := (hR.out.2).alloc (.cells #[byteV 128] 5)
        refine ⟨?_, upd_grown hu q2 (by simp)⟩
        rw [List.map_append]
        exact owns_base q1 hu.size
      have HV2 := Lib.hid hv2
      clear hv2
      go_loopw [6] (fun v wr => ∃ j : Nat, j ≤ 111 - X.length ∧ IsSl v ∧ lenOfV v = X.length + 1 + j ∧ Hid (wr.ownsRow w.heap.size 5 1 v (X.length + 1 + j) ((X ++ [128] ++ List.replicate j 0).map byteV) ∧ Upd [] w wr)) (fun v _ => 200 - lenOfV v)
      case atStart => exact ⟨0, by omega, hsl2, by obtain ⟨g2, c2', e2, _⟩ := owns_some HV2.out.1 (by omega); rw [e2]; rfl, by simpa using HV2⟩
      case round =>
        obtain ⟨j, hj, ⟨va, vn, vc, rfl⟩, hlen, hR2⟩ := hrel
        simp only [lenOfV] at hlen
        subst hlen
        obtain ⟨wz, hwz⟩ : ∃ wz, wz = wr := ⟨_, rfl⟩
        rw [← hwz] at hR2 ⊢
        clear hwz
        obtain ⟨N, hN'⟩ : ∃ N, N = X.length + 1 + j := ⟨_, rfl⟩
        have hXl := HX.out.2.1
        have z1 : IntKind.i64.wrap ((N : Int) + 16) = (N : Int) + 16 := IntWalk.i64_in _ (by omega)
        rw [← hN'] at hR2 ⊢
        by_cases hlt : j < 111 - X.length
        · have z2 : ((N : Int) + 16).tmod 128 = (N : Int) + 16 := by rw [Int.tmod_eq_emod_of_nonneg (by omega)]; omega
          have z3 : ((N : Int) + 16 == 0) = false := by rw [beq_eq_false_iff_ne]; omega
          obtain ⟨g3, cap3, e3, hb3, hc3⟩ := owns_some hR2.out.1 (by omega)
          rw [e3] at hR2 ⊢
          have HN2 := Lib.hid (show _ ∧ _ ∧ _ from ⟨hN', hXl, hlt⟩)
          clear e3 hb3 hc3 hN' hXl hj hlt
          have d2 : wz.cell? ⟨p, 2, none⟩ = some (.int .i64 8) := cell_of_heap (hR2.out.2.heap HM.out.1 (by simp)) 2
          have hoz : (wz.alloc (.cells #[byteV 0] 5 (0, 0))).ownsRow w.heap.size 5 1 (.slice (some ⟨g3, 0, none⟩) N cap3) N ((X ++ [128] ++ List.replicate j 0).map byteV) := owns_upd hR2.out.1 (Upd.new wz _) (by simp)
          have HZ := Lib.hid (show _ ∧ _ ∧ _ from ⟨hoz, new_cells (w := wz) (xs := [byteV 0]) 5, (hR2.out.2.size : w.heap.size ≤ wz.heap.size)⟩)
          clear hoz
          go_wp2_with (at_builtin; refine wpList_append_own _ rfl _ _ 22 rfl w.heap.size 5 i0 (.int .u8 0) 1 1 Tryz.underlying22 hi hz0 hz1 hz2 rfl (by decide) _ N _ rfl HZ.out.1 ⟨wz.heap.size, 0, none⟩ 1 1 [byteV 0] rfl rfl HZ.out.2.1 (byteV_one [0]) (by have := HN2.out; simp only [maxLen]; omega) (by have := HN2.out; omega) (Nat.le_trans HZ.out.2.2 (Upd.new wz _).size) ?_; intro v4 w4 q1 q2 q3; have hsl4 := owns_isSl q1; have HQ4 := Lib.hid (show _ ∧ _ from ⟨q1, q2⟩); clear q1 q2 q3)
          refine ⟨⟨j + 1, by have := HN2.out; omega, hsl4, ?_, Lib.hid ⟨?_, ?_⟩⟩, ?_⟩
          · obtain ⟨g4, c4, e4, _⟩ := owns_some HQ4.out.1 (by omega)
            rw [e4]; have := HN2.out; simp only [lenOfV]; omega
          · have e : X ++ [128] ++ List.replicate (j + 1) 0 = X ++ [128] ++ List.replicate j 0 ++ [0] := by rw [List.replicate_succ']; simp
            have := HN2.out.1
            rw [e, List.map_append, show X.length + 1 + (j + 1) = N + 1 by omega]
            exact HQ4.out.1
          · exact upd_grown (hR2.out.2.trans (Upd.new wz _)) HQ4.out.2 (owns_block hR2.out.1)
          · obtain ⟨g4, c4, e4, _⟩ := owns_some HQ4.out.1 (by omega)
            rw [e4]; have := HN2.out; simp only [lenOfV]; omega
        · have hN112 : N = 112 := by omega
          have hj2 : j = 111 - X.length := by omega
          have hoo := hR2.out
          rw [hj2] at hoo
          rw [hN112] at hoo ⊢
          obtain ⟨g3, cap3, e3, hb3, hc3⟩ := owns_some hoo.1 (by omega)
          rw [e3] at hoo ⊢
          have d2 : wz.cell? ⟨p, 2, none⟩ = some (.int .i64 8) := cell_of_heap (hR2.out.2.heap HM.out.1 (by simp)) 2
          have HO := Lib.hid (show _ ∧ _ ∧ _ ∧ _ from ⟨hoo.1, hoo.2, hb3, hc3⟩)
          clear e3 hb3 hc3 hN' hXl hj hlt z1 hN112 hj2 hoo hR2
          go_wp2_with (at_make; refine wpList_make_full _ rfl _ _ 22 rfl wz.heap.size 5 i0 _ 1 Tryz.underlying22 hi hz0 hz1 _ _ _ _ 16 rfl rfl rfl rfl (by rw [hz2]; decide) (by decide) (Nat.le_refl _) ?_; intro w5 hown5 hgrow5)
          obtain ⟨m1, m2⟩ := made_rowB hown5
          have hu5 : Upd [] wz w5 := ⟨hgrow5.os, hgrow5.tape, hgrow5.output, hgrow5.size, fun k hk _ => hgrow5.block k hk (by simp)⟩
          obtain ⟨g5, hg5⟩ : ∃ g5, g5 = wz.heap.size := ⟨_, rfl⟩
          rw [← hg5] at m1 ⊢
          have HG5 := Lib.hid (show _ ∧ _ ∧ _ from ⟨hg5, m1, hu5⟩)
          clear hown5 hgrow5 m1 m2 hu5 hg5 d2
          go_loopw [76] (fun i wr => ∃ k : Nat, i = .int .i64 (k : Int) ∧ k ≤ 8 ∧ Hid (RowB wr g5 (lenF X.length k) ∧ Upd [g5] w5 wr)) (fun i _ => 8 - (intOf i).toNat)
          case atStart => exact ⟨0, rfl, by omega, Lib.hid ⟨HG5.out.2.1, Upd.refl _ _⟩⟩
          case round =>
            obtain ⟨wy, hwy⟩ : ∃ wy, wy = wr := ⟨_, rfl⟩
            rw [← hwy] at hrel ⊢
            clear hwy
            obtain ⟨k, rfl, hk, hR5⟩ := hrel
            by_cases hlt : k < 8
            · have hltI : (k : Int) < 8 := by omega
              have hk0 : (0 : Int) ≤ (k : Int) := by omega
              obtain ⟨i, hi'⟩ : ∃ i, i = 15 - k := ⟨_, rfl⟩
              have z1 : IntKind.i64.wrap (15 - (k : Int)) = (i : Int) := by rw [IntWalk.i64_in _ (by omega)]; omega
              have z2 : IntKind.i64.wrap (8 * (k : Int)) = 8 * (k : Int) := IntWalk.i64_in _ (by omega)
              have z3 : (0 : Int) ≤ (i : Int) ∧ (i : Int) < 16 := by omega
              have z4 : (0 : Int) ≤ 8 * (k : Int) ∧ 8 * (k : Int) < 64 := by omega
              obtain ⟨b0, dl⟩ : ∃ b0 : Int, wy.cell? ⟨g5, i, none⟩ = some (.int .u8 b0) := ⟨_, hR5.out.1.at i (by rw [lenF_len]; omega)⟩
              have fl : wy.frozen? ⟨g5, i, none⟩ = false := free_of_heap hR5.out.1 i
              have HI := Lib.hid hi'
              clear hi'
              go_wp2
              rw [byteOf_V]
              have hs := hR5.out.1.set i (byteOf (IntKind.u64.wrap ((X.length : Int) * 8) / 2 ^ (8 * k)))
              refine ⟨⟨k + 1, by simp, by omega, Lib.hid ⟨?_, hR5.out.2.trans hs.2⟩⟩, by simp [intOf]; omega⟩
              rw [lenF, ← HI.out]
              exact hs.1
            · have hkI : (k : Int) = 8 := by omega
              have hkN : k = 8 := by omega
              rw [hkN] at hR5
              rw [hkI]
              clear hkI hkN hk hlt
              have hg3 : g3 < wz.heap.size := owns_lt HO.out.1
              have hoy : wy.ownsRow w.heap.size 5 1 (.slice (some ⟨g3, 0, none⟩) 112 cap3) 112 ((X ++ [128] ++ List.replicate (111 - X.length) 0).map byteV) := by
                refine owns_same HO.out.1 ?_
                rw [hR5.out.2.block g3 (Nat.lt_of_lt_of_le hg3 HG5.out.2.2.size) (by have := HG5.out.1; simp; omega), HG5.out.2.2.block g3 hg3 (by simp)]
              have huy : Upd [] w wy := ((HO.out.2.1).trans HG5.out.2.2).trans' hR5.out.2 (by intro x hx; rw [List.mem_singleton] at hx; rw [hx, HG5.out.1]; exact .inr HO.out.2.1.size)
              have hcl : ∀ j u, ((lenF X.length 8).map byteV)[j]? = some u → wy.cell? ((⟨g5, 0, none⟩ : Addr).add j) = some u := by
                intro j u hj
                rw [Addr.add_lit, Nat.zero_add, cell_of_heap hR5.out.1, List.getElem?_toArray]
                exact hj
              have HY := Lib.hid (show _ ∧ _ ∧ _ from ⟨hoy, huy, hcl⟩)
              clear hg3 hoy huy hcl
              go_wp2_with (at_builtin; refine wpList_append_own _ rfl _ _ 22 rfl w.heap.size 5 i0 (.int .u8 0) 1 1 Tryz.underlying22 hi hz0 hz1 hz2 rfl (by decide) _ 112 _ rfl HY.out.1 ⟨g5, 0, none⟩ 16 16 ((lenF X.length 8).map byteV) rfl (by rw [List.length_map, lenF_len]) HY.out.2.2 (byteV_one _) (by decide) (by decide) HY.out.2.1.size ?_; intro v6 w6 q1 q2 q3; obtain ⟨g6, cap6, rfl, hb6, hc6⟩ := owns_some q1 (by decide); have HQ6 := Lib.hid (show _ ∧ _ from ⟨q1, q2⟩); clear q1 q2 q3)
              have hc6I : (128 : Int) ≤ (cap6 : Int) := by omega
              obtain ⟨bs, hbs⟩ : ∃ bs, bs = padF X := ⟨_, rfl⟩
              have hu6 : Upd [] w w6 := upd_grown HY.out.2.1 HQ6.out.2 (owns_block HY.out.1)
              have hblk : Calls Tryz.prog 103 #[.pointer (some ⟨p, 0, none⟩), .slice (some ⟨g6, 0, none⟩) 128 cap6] w6 fun e w' => e = .returned (.tuple #[]) ∧ Upd [gh] w6 w' ∧ RowU w' gh (blockF hs ks bs) := by
                obtain ⟨hm, hh, hk', h8, k80, hl, hps, hsum⟩ := HM.out
                refine block103 (hu6.heap hm (by simp)) (hu6.heap hh (by simp)) (hu6.heap hk' (by simp)) h8 k80 g6 0 cap6 bs ?_ (owns_lt HQ6.out.1) (by rw [hbs]; exact padF_len HX.out.2.1.2)
                intro j u hj
                rw [Addr.add_lit, Nat.zero_add]
                refine owns_cells HQ6.out.1 j u ?_
                rw [hbs] at hj
                unfold padF at hj
                rw [List.map_append] at hj
                exact hj
              have H6 := Lib.hid (show _ ∧ _ from ⟨hbs, hu6⟩)
              clear hbs hu6
              have hpq : ∀ W, Upd [gh] w6 W → MachAt W p (.slice (some ⟨gh, 0, none⟩) 8 ch) (.slice (some ⟨gk, 0, none⟩) 80 ck) := by
                intro W hW
                have hp6 := H6.out.2.heap HM.out.1 (by simp)
                refine hW.heap hp6 ?_
                intro e
                rw [List.mem_singleton] at e
                have hh6 : w6.heap[gh]? = _ := H6.out.2.heap HM.out.2.1 (by simp)
                rw [e] at hp6
                rw [hh6] at hp6
                simp at hp6
              have HPQ := Lib.hid hpq
              clear hpq
              refine wp_loop_rounds 2 ?_
              rw [rounds_succ]
              go_wp2_with (go_at_call 103; refine hblk.mono ?_; rintro e w7 ⟨rfl, hu7, hr7⟩; have d0 := cell_of_heap (HPQ.out _ hu7) 0; have d2' := cell_of_heap (HPQ.out _ hu7) 2; have H7 := Lib.hid (show _ ∧ _ from ⟨hu7, hr7⟩); clear hu7 hr7 hblk)
              all_goals rw [rounds_succ]
              all_goals go_wp2
              all_goals
                obtain ⟨hs', hhs⟩ : ∃ l, l = blockF hs ks bs := ⟨_, rfl⟩
                have H8 := Lib.hid (show _ ∧ hs'.length = 8 from ⟨hhs, by rw [hhs]; unfold blockF; rw [addX_len]; exact HM.out.2.2.2.1⟩)
                rw [← hhs] at H7
                clear hhs
                go_loopw [112, 12] (fun i v wr => ∃ k : Nat, i = .int .i64 (k : Int) ∧ k ≤ 8 ∧ IsSl v ∧ Hid (wr.ownsRow w7.heap.size 5 1 v (8 * k) ((outF (hs'.take k)).map byteV) ∧ Upd [] w7 wr)) (fun i _ _ => 8 - (intOf i).toNat)
                case atStart => exact ⟨0, rfl, by omega, ⟨none, 0, 0, rfl⟩, Lib.hid ⟨World.ownsRow_nil w7 _ 5 1, Upd.refl _ _⟩⟩
                case round =>
                  obtain ⟨wx, hwx⟩ : ∃ wx, wx = wr := ⟨_, rfl⟩
                  rw [← hwx] at hrel ⊢
                  clear hwx
                  obtain ⟨k, rfl, hk, ⟨va, vn, vc, rfl⟩, hR8⟩ := hrel
                  by_cases hlt : k < 8
                  · have hltI : (k : Int) < 8 := by omega
                    have hk0 : (0 : Int) ≤ (k : Int) := by omega
                    have hk8 : k < hs'.length := by rw [H8.out.2]; exact hlt
                    have hrx : RowU wx gh hs' := hR8.out.2.heap H7.out.2 (by simp)
                    obtain ⟨x, hx⟩ : ∃ x, x = hs'[k] := ⟨_, rfl⟩
                    have dx : wx.cell? ⟨gh, k, none⟩ = some (.int .u64 x) := by rw [hx]; exact hrx.at k hk8
                    have dp : wx.cell? ⟨p, 2, none⟩ = some (.int .i64 8) := cell_of_heap (hR8.out.2.heap (HPQ.out _ H7.out.1) (by simp)) 2
                    have hT := outF_take hk8
                    rw [← hx] at hT
                    have HT := Lib.hid hT
                    clear hx hT hrx hk8
                    go_wp2
                    go_loopw [15, 12] (fun j v wr => ∃ m : Nat, j = .int .i64 (7 - (m : Int)) ∧ m ≤ 8 ∧ IsSl v ∧ Hid (wr.ownsRow w7.heap.size 5 1 v (8 * k + m) ((outF (hs'.take k) ++ wordB x m).map byteV) ∧ Upd [] w7 wr)) (fun j _ _ => (intOf j + 1).toNat)
                    case atStart => exact ⟨0, rfl, by omega, ⟨_, _, _, rfl⟩, by simpa [wordB] using hR8⟩
                    case round =>
                      obtain ⟨wt, hwt⟩ : ∃ wt, wt = wr := ⟨_, rfl⟩
                      rw [← hwt] at hrel ⊢
                      clear hwt
                      obtain ⟨m, rfl, hm, ⟨va2, vn2, vc2, rfl⟩, hR9⟩ := hrel
                      by_cases hltm : m < 8
                      · obtain ⟨j, hj⟩ : ∃ j, j = 7 - m := ⟨_, rfl⟩
                        have hjI : 7 - (m : Int) = (j : Int) := by omega
                        have hj0 : (0 : Int) ≤ (j : Int) := by omega
                        have z2 : IntKind.i64.wrap (8 * (j : Int)) = 8 * (j : Int) := IntWalk.i64_in _ (by omega)
                        have z4 : (0 : Int) ≤ 8 * (j : Int) ∧ 8 * (j : Int) < 64 := by omega
                        have z5 : IntKind.i64.wrap ((j : Int) - 1) = (j : Int) - 1 := IntWalk.i64_in _ (by omega)
                        rw [hjI]
                        have hoz : (wt.alloc (.cells #[.int .u8 (x / 2 ^ (8 * j) % 256)] 5 (0, 0))).ownsRow w7.heap.size 5 1 (.slice va2 vn2 vc2) (8 * k + m) ((outF (hs'.take k) ++ wordB x m).map byteV) := owns_upd hR9.out.1 (Upd.new wt _) (by simp)
                        have HZ := Lib.hid (show _ ∧ _ ∧ _ ∧ _ from ⟨hoz, new_cells (w := wt) (xs := [.int .u8 (x / 2 ^ (8 * j) % 256)]) 5, hR9.out.2.size, hltm⟩)
                        have HJ := Lib.hid hj
                        clear hoz hj hjI
                        go_wp2_with (at_builtin; refine wpList_append_own _ rfl _ _ 22 rfl w7.heap.size 5 i0 (.int .u8 0) 1 1 Tryz.underlying22 hi hz0 hz1 hz2 rfl (by decide) _ (8 * k + m) _ rfl HZ.out.1 ⟨wt.heap.size, 0, none⟩ 1 1 [.int .u8 (x / 2 ^ (8 * j) % 256)] rfl rfl HZ.out.2.1 (by intro u hu; rw [List.mem_singleton] at hu; rw [hu]; rfl) (by have := HZ.out.2.2.2; simp only [maxLen]; omega) (by have := HZ.out.2.2.2; omega) (Nat.le_trans HZ.out.2.2.1 (Upd.new wt _).size) ?_; intro v4 w4 q1 q2 q3; have hsl4 := owns_isSl q1; have HQ4 := Lib.hid (show _ ∧ _ from ⟨q1, q2⟩); clear q1 q2 q3)
                        refine ⟨⟨m + 1, by congr 1; have := HJ.out; omega, by omega, hsl4, Lib.hid ⟨?_, upd_grown (hR9.out.2.trans (Upd.new wt _)) HQ4.out.2 (owns_block hR9.out.1)⟩⟩, by simp only [intOf]; omega⟩
                        rw [wordB_succ, ← HJ.out, ← List.append_assoc, List.map_append]
                        have q := HQ4.out.1
                        rw [byteOf_V] at q
                        exact q
                      · have hmN : m = 8 := by omega
                        have hmI : (7 - (m : Int)) = -1 := by omega
                        rw [hmN] at hR9
                        rw [hmI]
                        clear hmN hmI hm hltm
                        go_wp2
                        go_roundw
                        case rel =>
                          refine ⟨k + 1, by simp, by omega, ⟨_, _, _, rfl⟩, Lib.hid ⟨?_, hR9.out.2⟩⟩
                          rw [HT.out]
                          exact hR9.out.1
                        case measure => simp [intOf]; omega
                  · have hkI : (k : Int) = 8 := by omega
                    have hkN : k = 8 := by omega
                    rw [hkN] at hR8
                    rw [hkI]
                    clear hkI hkN hk hlt
                    go_wp2
                    go_ret
                    obtain ⟨o1, o2⟩ := hR8.out
                    have h78 : w.heap.size ≤ w7.heap.size := Nat.le_trans H6.out.2.size H7.out.1.size
                    refine ⟨_, rfl, ?_, (H6.out.2.mono (by simp)).trans (H7.out.1.trans (o2.mono (by simp)))⟩
                    unfold sumF
                    rw [← HX.out.1, ← H6.out.1, ← H8.out.1]
                    rw [List.take_of_length_le (by rw [H8.out.2]; exact Nat.le_refl _)] at o1
                    exact owns_base o1 h78
end Go.Proofs.YtdbceafejbnebaaGreatDoor
