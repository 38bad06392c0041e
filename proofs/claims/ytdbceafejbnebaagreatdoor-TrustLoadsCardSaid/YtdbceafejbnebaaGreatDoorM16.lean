/- trust.Digits of one key. trust.Number of two texts, of an account. -/
import Derived.Test.YtdbceafejbnebaaGreatDoorM15
/-! trust.Digits of one key. -/
namespace Go.Proofs.YtdbceafejbnebaaGreatDoor
open Go Go.RowKit
theorem setF_one (k : K) : setF [k] = [k] := setF_eq (by simp) (by simp)
/-- Sums of sums. -/
noncomputable def iterF (acct : UInt8) (k : K) : Nat → List UInt8
  | 0 => hashF ([0, 0] ++ k.1 ++ [acct])
  | n + 1 => hashF (iterF acct k n ++ k.1)
theorem iterF_len (acct : UInt8) (k : K) : ∀ n, (iterF acct k n).length = 64
  | 0 => hashF_len _
  | _ + 1 => hashF_len _
theorem owns_ne {w : World} {base size n g cap : Nat} {e : TypeId} {xs : List Value} {g8 : Nat} {cs : Array Value} {t : TypeId} {fz : Nat × Nat} (h : w.ownsRow base e size (.slice (some ⟨g, 0, none⟩) n cap) n xs) (h8 : w.heap[g8]? = some (.cells cs t fz)) (ht : e ≠ t) : g ≠ g8 := by
  obtain ⟨_, ⟨q, _⟩ | ⟨g', cap', cur, hv, _, hg, _⟩⟩ := h
  · cases q
  · cases hv
    intro e
    subst e
    rw [hg] at h8
    simp only [Option.some.injEq, Obj.cells.injEq] at h8
    exact ht h8.2.1
/-- The number that five bytes are, m of them read. -/
def nF (h : List UInt8) (i : Nat) : Nat → Int
  | 0 => 0
  | m + 1 => bits .or .u64 (IntKind.u64.wrap (nF h i m * 256)) (IntKind.u64.wrap ((h[5 * i + m]?.getD 0).toNat : Int))
def divN (j : Nat) : Int := [10000, 1000, 100, 10, 1, 0].getD j 0
def chF (n d : Int) : UInt8 := byteOf (48 + (IntKind.u64.wrap (n.tdiv d)).tmod 10)
def dig5 (n : Int) : List UInt8 := [chF n 10000, chF n 1000, chF n 100, chF n 10, chF n 1]
def digF (h : List UInt8) (n : Nat) : List UInt8 := (List.range n).flatMap fun i => dig5 ((nF h i 5).tmod 100000)
theorem digF_len (h : List UInt8) (n : Nat) : (digF h n).length = 5 * n := by
  unfold digF
  induction n with
  | zero => rfl
  | succ n ih => rw [List.range_succ, List.flatMap_append, List.length_append, ih]; simp [dig5]; omega
/-- The digits of an account and a key. -/
noncomputable def digK (acct : UInt8) (k : K) : List UInt8 := digF (iterF acct k 32) 6
theorem digK_len (acct : UInt8) (k : K) : (digK acct k).length = 30 := digF_len _ _
theorem chF_ne (n d : Int) : chF n d ≠ 32 := by
  unfold chF byteOf
  have h1 := Int.tmod_lt_of_pos (IntKind.u64.wrap (n.tdiv d)) (show (0 : Int) < 10 by decide)
  have h2 := Int.lt_tmod_of_pos (IntKind.u64.wrap (n.tdiv d)) (show (0 : Int) < 10 by decide)
  generalize (IntKind.u64.wrap (n.tdiv d)).tmod 10 = x at h1 h2 ⊢
  intro e
  have e2 := congrArg UInt8.toNat e
  rw [UInt8.toNat_ofNat'] at e2
  have : (32 : UInt8).toNat = 32 := rfl
  omega
theorem digK_ne (acct : UInt8) (k : K) : ∀ c ∈ digK acct k, c ≠ 32 := by
  intro c hc
  unfold digK digF at hc
  rw [List.mem_flatMap] at hc
  obtain ⟨i, _, hi⟩ := hc
  simp only [dig5, List.mem_cons, List.not_mem_nil, or_false] at hi
  rcases hi with rfl | rfl | rfl | rfl | rfl <;> exact chF_ne _ _
/-- What a call of Sum512 on three texts comes to, the texts lying where Digits lays them. -/
theorem call3 {w : World} {base : Nat} (acct : UInt8) (k : K) (g cap : Nat) (h : w.ownsRow base 5 1 (.slice (some ⟨g, 0, none⟩) 32 cap) 32 (keyCells k)) :
    Calls Tryz.prog 70 #[.slice (some ⟨w.heap.size + 1 + 1, 0, none⟩) 3 3] (((w.alloc (.cells #[.int .u8 0, .int .u8 0] 5)).alloc (.cells #[.int .u8 (acct.toNat : Int)] 5)).alloc (.cells #[.slice (some ⟨w.heap.size, 0, none⟩) 2 2, .slice (some ⟨g, 0, none⟩) 32 cap, .slice (some ⟨w.heap.size + 1, 0, none⟩) 1 1] 22))
      fun e w' => e = .returned (bytesV (iterF acct k 0)) ∧ Upd [] w w' := by
  have hk := k.2
  have hg := owns_lt h
  have s1 : (w.alloc (.cells #[.int .u8 0, .int .u8 0] 5)).heap.size = w.heap.size + 1 := by simp
  have s2 : ((w.alloc (.cells #[.int .u8 0, .int .u8 0] 5)).alloc (.cells #[.int .u8 (acct.toNat : Int)] 5)).heap.size = w.heap.size + 1 + 1 := by simp
  have n1 := heap_alloc_new w (.cells #[.int .u8 0, .int .u8 0] 5)
  have n2 := heap_alloc_new (w.alloc (.cells #[.int .u8 0, .int .u8 0] 5)) (.cells #[.int .u8 (acct.toNat : Int)] 5)
  have n3 := heap_alloc_new ((w.alloc (.cells #[.int .u8 0, .int .u8 0] 5)).alloc (.cells #[.int .u8 (acct.toNat : Int)] 5)) (.cells #[.slice (some ⟨w.heap.size, 0, none⟩) 2 2, .slice (some ⟨g, 0, none⟩) 32 cap, .slice (some ⟨w.heap.size + 1, 0, none⟩) 1 1] 22)
  rw [s1] at n2
  rw [s2] at n3
  have u1 := Upd.new w (.cells #[.int .u8 0, .int .u8 0] 5)
  have u2 := Upd.new (w.alloc (.cells #[.int .u8 0, .int .u8 0] 5)) (.cells #[.int .u8 (acct.toNat : Int)] 5)
  have u3 := Upd.new ((w.alloc (.cells #[.int .u8 0, .int .u8 0] 5)).alloc (.cells #[.int .u8 (acct.toNat : Int)] 5)) (.cells #[.slice (some ⟨w.heap.size, 0, none⟩) 2 2, .slice (some ⟨g, 0, none⟩) 32 cap, .slice (some ⟨w.heap.size + 1, 0, none⟩) 1 1] 22)
  have m1 := u3.heap (u2.heap n1 (by simp)) (by simp)
  have m2 := u3.heap n2 (by simp)
  have m3 := owns_upd h ((u1.trans u2).trans u3) (by simp)
  have hsz := ((u1.trans u2).trans u3).size
  have hs3 := u3.size
  rw [s2] at hs3
  have hu := (u1.trans u2).trans u3
  generalize ((w.alloc (.cells #[.int .u8 0, .int .u8 0] 5)).alloc (.cells #[.int .u8 (acct.toNat : Int)] 5)).alloc (.cells #[.slice (some ⟨w.heap.size, 0, none⟩) 2 2, .slice (some ⟨g, 0, none⟩) 32 cap, .slice (some ⟨w.heap.size + 1, 0, none⟩) 1 1] 22) = W at *
  have hh := lt_of_heap n3
  have q := sum70 (w := W) (w.heap.size + 1 + 1) 3 [(w.heap.size, 0, 2, [0, 0]), (g, 0, cap, k.1), (w.heap.size + 1, 0, 1, [acct])] (by rw [n3]; simp [pcV, hk]) (by
    intro x hx
    simp only [List.mem_cons, List.not_mem_nil, or_false] at hx
    rcases hx with rfl | rfl | rfl
    · refine ⟨?_, by simp, by simp only; omega⟩
      intro j u hj
      rw [Addr.add_lit, Nat.zero_add]
      simp only
      rw [cell_of_heap m1, List.getElem?_toArray]
      exact hj
    · refine ⟨?_, by simp [hk], by simp only; omega⟩
      intro j u hj
      rw [Addr.add_lit, Nat.zero_add]
      exact owns_cells m3 j u hj
    · refine ⟨?_, by simp, by simp only; omega⟩
      intro j u hj
      rw [Addr.add_lit, Nat.zero_add]
      simp only
      rw [cell_of_heap m2, List.getElem?_toArray]
      exact hj) (by simp [pcT, hk]) (by simp) (by simp [pcT])
  refine q.mono ?_
  rintro e w' ⟨rfl, h2⟩
  refine ⟨?_, hu.trans h2⟩
  unfold iterF
  simp [pcT]
theorem call2 {w : World} {base : Nat} (acct : UInt8) (k : K) (n g cap g8 : Nat) (h : w.ownsRow base 5 1 (.slice (some ⟨g, 0, none⟩) 32 cap) 32 (keyCells k)) (h8 : w.heap[g8]? = some (.cells ((iterF acct k n).map byteV).toArray 128 (0, 0))) :
    Calls Tryz.prog 70 #[.slice (some ⟨w.heap.size, 0, none⟩) 2 2] (w.alloc (.cells #[.slice (some ⟨g8, 0, none⟩) 64 64, .slice (some ⟨g, 0, none⟩) 32 cap] 22))
      fun e w' => e = .returned (bytesV (iterF acct k (n + 1))) ∧ Upd [] w w' := by
  have hk := k.2
  have hl := iterF_len acct k n
  have hg := owns_lt h
  have hg8 := lt_of_heap h8
  have n3 := heap_alloc_new w (.cells #[.slice (some ⟨g8, 0, none⟩) 64 64, .slice (some ⟨g, 0, none⟩) 32 cap] 22)
  have hu := Upd.new w (.cells #[.slice (some ⟨g8, 0, none⟩) 64 64, .slice (some ⟨g, 0, none⟩) 32 cap] 22)
  have m1 := hu.heap h8 (by simp)
  have m3 := owns_upd h hu (by simp)
  have hsz := hu.size
  generalize w.alloc (.cells #[.slice (some ⟨g8, 0, none⟩) 64 64, .slice (some ⟨g, 0, none⟩) 32 cap] 22) = W at *
  have q := sum70 (w := W) w.heap.size 2 [(g8, 0, 64, iterF acct k n), (g, 0, cap, k.1)] (by rw [n3]; simp [pcV, hk, hl]) (by
    intro x hx
    simp only [List.mem_cons, List.not_mem_nil, or_false] at hx
    rcases hx with rfl | rfl
    · refine ⟨?_, by simp [hl], by simp only; omega⟩
      intro j u hj
      rw [Addr.add_lit, Nat.zero_add]
      simp only
      rw [cell_of_heap m1, List.getElem?_toArray]
      exact hj
    · refine ⟨?_, by simp [hk], by simp only; omega⟩
      intro j u hj
      rw [Addr.add_lit, Nat.zero_add]
      exact owns_cells m3 j u hj) (by simp [pcT, hk, hl]) (by simp) (by simp [pcT, hl]; omega)
  refine q.mono ?_
  rintro e w' ⟨rfl, h2⟩
  refine ⟨?_, hu.trans h2⟩
  rw [iterF]
  simp [pcT]
set_option maxHeartbeats 4000000 in
set_option maxRecDepth 100000 in
theorem digits49 {w : World} (acct : UInt8) (g cap : Nat) (k : K) (hr : RowK w g cap [k]) :
    Calls Tryz.prog 49 #[byteV acct, .slice (some ⟨g, 0, none⟩) 1 cap] w fun e w' => e = .returned (.string ⟨(digK acct k).toArray⟩) ∧ Upd [] w w' := by
  obtain ⟨i0, hi, hz0, hz1, hz2⟩ := info_parts Tryz.info5
  have hset := set46 g cap [k] w hr (by simp) (by simp)
  rw [setF_one] at hset
  have HR := Lib.hid hr
  clear hr
  unfold byteV
  go_enter Tryz.func49, Tryz.ntmps49
  go_wp2_with (go_at_call 46; refine hset.mono ?_; clear hset; rintro e w1 ⟨g1, cap1, rfl, q1, q2, q3⟩; have H1 := Lib.hid (show _ ∧ _ ∧ _ from ⟨q1, q2, q3⟩); clear q1 q2 q3)
  have hrr : w1.rangeAt g1 0 (keyCells k) := by have := H1.out.2.1.range 0 (by simp); simpa using this
  have ha : (w1.alloc (.cells zc.toArray 31)).heap[w1.heap.size]? = some (.cells zc.toArray 31 (0, 0)) := heap_alloc_new w1 _
  have hb := setRow_heap (w1.alloc (.cells zc.toArray 31)) w1.heap.size zc.toArray (keyCells k).toArray 31 (0, 0) ha
  have hu : Upd [] w1 ((w1.alloc (.cells zc.toArray 31)).setRow w1.heap.size (keyCells k).toArray) := (Upd.new w1 _).setRow (.inl (Nat.le_refl _)) _
  have HA := Lib.hid (show _ ∧ _ ∧ _ ∧ _ from ⟨hrr, ha, hb, hu⟩)
  clear hrr ha hb hu
  refine wp_loop_rounds 2 ?_
  rw [rounds_succ]
  go_wp2_with (first
    | (refine wpList_load_mid rfl 31 _ rfl g1 0 rfl (keyCells k) _ HA.out.1 Tryz.underlying31 rfl (hu31 _) ?_)
    | (refine wpList_store_row rfl 31 _ _ rfl w1.heap.size (keyCells k).toArray rfl rfl 31 zc.toArray HA.out.2.1 (size31 (keyCells_len k)) (by simp [keyCells_len, zc_len]) (keyCells_all k) ?_; change wpList _ _ _ _ _ ((w1.alloc (.cells zc.toArray 31)).setRow w1.heap.size (keyCells k).toArray))
    | (at_builtin; refine wpList_append_own _ rfl _ _ 22 rfl w1.heap.size 5 i0 (.int .u8 0) 1 1 Tryz.underlying22 hi hz0 hz1 hz2 rfl (by decide) _ 0 [] rfl (World.ownsRow_nil _ _ 5 1) ⟨w1.heap.size, 0, none⟩ 32 32 (keyCells k) rfl (keyCells_len k) (by intro j u hj; rw [Addr.add_lit, Nat.zero_add, cell_of_heap HA.out.2.2.1, List.getElem?_toArray]; exact hj) (keyCells_one k) (by decide) (by decide) (HA.out.2.2.2.size) ?_; intro v2 w2 q1 q2 q3; obtain ⟨g2, cap2, rfl, hb2, hc2⟩ := owns_some q1 (by decide); have H2 := Lib.hid (show _ ∧ _ from ⟨q1, q2⟩); clear q1 q2 q3))
  rw [rounds_succ]
  go_upto_region 7 with fail
  have h2o : w2.ownsRow w1.heap.size 5 1 (.slice (some ⟨g2, 0, none⟩) 32 cap2) 32 (keyCells k) := H2.out.1
  have h2u : Upd [] w w2 := upd_grown (H1.out.1.trans HA.out.2.2.2) H2.out.2 (by intro j hj; cases hj)
  have HO := Lib.hid (show _ ∧ _ ∧ _ from ⟨h2o, h2u, (H1.out.1.size : w.heap.size ≤ w1.heap.size)⟩)
  clear h2o h2u
  go_wp2_with (first
    | (go_at_call 70; refine (call3 acct k g2 cap2 HO.out.1).mono ?_; rintro e w3 ⟨rfl, hu3⟩; have H3 := Lib.hid hu3; clear hu3)
    | (refine wpList_store_row rfl 128 _ _ rfl w3.heap.size ((iterF acct k 0).map byteV).toArray rfl rfl 128 (z64.map byteV).toArray (heap_alloc_new w3 _) (size128' (iterF_len acct k 0)) (by simp [iterF_len, z64]) (oneCells _) ?_; change wpList _ _ _ _ _ ((w3.alloc (.cells (z64.map byteV).toArray 128)).setRow w3.heap.size ((iterF acct k 0).map byteV).toArray)))
  have hb := setRow_heap (w3.alloc (.cells (z64.map byteV).toArray 128)) w3.heap.size (z64.map byteV).toArray ((iterF acct k 0).map byteV).toArray 128 (0, 0) (heap_alloc_new w3 _)
  have hu4 : Upd [] w3 ((w3.alloc (.cells (z64.map byteV).toArray 128)).setRow w3.heap.size ((iterF acct k 0).map byteV).toArray) := (Upd.new w3 _).setRow (.inl (Nat.le_refl _)) _
  generalize (w3.alloc (.cells (z64.map byteV).toArray 128)).setRow w3.heap.size ((iterF acct k 0).map byteV).toArray = w4 at hb hu4 ⊢
  obtain ⟨g8, hg8⟩ : ∃ g8, g8 = w3.heap.size := ⟨_, rfl⟩
  rw [← hg8] at hb ⊢
  have hu4' : Upd [] w w4 := (HO.out.2.1.trans H3.out).trans hu4
  have ho4 := owns_upd (owns_upd HO.out.1 H3.out (by simp)) hu4 (by simp)
  have H4 := Lib.hid (show _ ∧ _ ∧ _ ∧ w.heap.size ≤ g8 from ⟨hb, ho4, hu4', by rw [hg8]; exact (HO.out.2.1.trans H3.out).size⟩)
  clear hb hu4 hu4' ho4 hg8
  go_loopw [32] (fun i wr => ∃ n : Nat, i = .int .i64 (n : Int) ∧ n ≤ 32 ∧ Hid (wr.heap[g8]? = some (.cells ((iterF acct k n).map byteV).toArray 128 (0, 0)) ∧ wr.ownsRow w1.heap.size 5 1 (.slice (some ⟨g2, 0, none⟩) 32 cap2) 32 (keyCells k) ∧ Upd [] w wr)) (fun i _ => 32 - (intOf i).toNat)
  case atStart => exact ⟨0, rfl, by omega, Lib.hid ⟨H4.out.1, H4.out.2.1, H4.out.2.2.1⟩⟩
  case round =>
    obtain ⟨wz, hwz⟩ : ∃ wz, wz = wr := ⟨_, rfl⟩
    rw [← hwz] at hrel ⊢
    clear hwz
    obtain ⟨n, rfl, hn, hR1⟩ := hrel
    by_cases hlt : n < 32
    · have hltI : (n : Int) < 32 := by omega
      go_wp2_with (first
        | (go_at_call 70; refine (call2 acct k n g2 cap2 g8 hR1.out.2.1 hR1.out.1).mono ?_; rintro e w5 ⟨rfl, hu5⟩; have H5 := Lib.hid (show _ ∧ _ from ⟨hu5, hu5.heap hR1.out.1 (by simp)⟩); clear hu5)
        | (refine wpList_store_row rfl 128 _ _ rfl g8 ((iterF acct k (n + 1)).map byteV).toArray rfl rfl 128 _ H5.out.2 (size128' (iterF_len acct k (n + 1))) (by simp [iterF_len]) (oneCells _) ?_))
      go_roundw
      case rel =>
        obtain ⟨x1, x2⟩ := H5.out
        have y2 := owns_upd hR1.out.2.1 x1 (by simp)
        refine ⟨n + 1, by simp, by omega, Lib.hid ⟨setRow_heap w5 g8 _ _ 128 (0, 0) x2, owns_same y2 (setRow_other w5 g8 g2 _ (owns_ne y2 x2 (by decide))), (hR1.out.2.2.trans x1).setRow (.inl H4.out.2.2.2) _⟩⟩
      case measure => simp [intOf]; omega
    · have hkI : (n : Int) = 32 := by omega
      have hkN : n = 32 := by omega
      rw [hkN] at hR1
      rw [hkI]
      clear hkI hkN hn hlt
      go_upto_region 12 with fail
      obtain ⟨b, hb⟩ : ∃ b, b = wz.heap.size := ⟨_, rfl⟩
      have n9 := heap_alloc_new wz (.cells #[.pointer none, .slice none 0 0] 132)
      have u9 := Upd.new wz (.cells #[.pointer none, .slice none 0 0] 132)
      go_wp2
      generalize wz.alloc (.cells #[.pointer none, .slice none 0 0] 132) = w9 at n9 u9 ⊢
      rw [← hb] at n9 ⊢
      have hB9 : Lib.IsBuilder 132 5 b b [] w9 := .inl ⟨Nat.le_refl _, .slice none 0 0, n9, World.ownsRow_nil _ _ 5 1, by simp [Value.ownBlock]⟩
      have h89 := u9.heap hR1.out.1 (by simp)
      have hg8b : g8 < b := by rw [hb]; exact lt_of_heap hR1.out.1
      have H9 := Lib.hid (show _ ∧ _ ∧ _ ∧ _ ∧ _ from ⟨hB9, h89, hR1.out.2.2.trans u9, hg8b, (lt_of_heap n9 : b < w9.heap.size)⟩)
      have HBB := Lib.hid hb
      clear n9 u9 hB9 h89 hg8b hb
      obtain ⟨h, hh⟩ : ∃ h, h = iterF acct k 32 := ⟨_, rfl⟩
      have hh64 : h.length = 64 := by rw [hh]; exact iterF_len _ _ _
      rw [← hh] at H9
      have HH := Lib.hid (show _ ∧ _ from ⟨hh, hh64⟩)
      clear hh hh64
      go_loopw [39] (fun i wr => ∃ n : Nat, i = .int .i64 (n : Int) ∧ n ≤ 6 ∧ Hid (Lib.IsBuilder 132 5 b b ((digF h n).map byteV) wr ∧ Below b w9 wr)) (fun i _ => 6 - (intOf i).toNat)
      case atStart => exact ⟨0, rfl, by omega, Lib.hid ⟨H9.out.1, Below.refl _ _⟩⟩
      case round =>
        obtain ⟨wy, hwy⟩ : ∃ wy, wy = wr := ⟨_, rfl⟩
        rw [← hwy] at hrel ⊢
        clear hwy
        obtain ⟨i, rfl, hn, hR2⟩ := hrel
        by_cases hlt : i < 6
        · have hltI : (i : Int) < 6 := by omega
          obtain ⟨a5, ha5⟩ : ∃ a5, a5 = 5 * i := ⟨_, rfl⟩
          have z1 : IntKind.i64.wrap ((i : Int) * 5) = (a5 : Int) := by rw [IntWalk.i64_in _ (by omega)]; omega
          have z2 : IntKind.i64.wrap ((i : Int) + 1) = (i : Int) + 1 := IntWalk.i64_in _ (by omega)
          obtain ⟨b5, hb5⟩ : ∃ b5, b5 = a5 + 5 := ⟨_, rfl⟩
          have z3 : IntKind.i64.wrap (((i : Int) + 1) * 5) = (b5 : Int) := by rw [IntWalk.i64_in _ (by omega)]; omega
          have z4 : (0 : Int) ≤ (a5 : Int) := by omega
          have z5 : (a5 : Int) ≤ (b5 : Int) := by omega
          have z6 : (b5 : Int) ≤ 64 := by omega
          have z7 : b5 - a5 = 5 := by omega
          have h8y := (hR2.out.2.block g8 H9.out.2.2.2.1).trans H9.out.2.1
          have H8 := Lib.hid (show _ ∧ _ ∧ _ from ⟨h8y, ha5, hb5⟩)
          clear h8y ha5 hb5
          go_wp2
          go_loopw [49, 11] (fun j n wr => ∃ m : Nat, j = .int .i64 (m : Int) ∧ m ≤ 5 ∧ n = .int .u64 (nF h i m) ∧ wr = wy) (fun j _ _ => 5 - (intOf j).toNat)
          case atStart => exact ⟨0, rfl, by omega, rfl, rfl⟩
          case round =>
            obtain ⟨m, rfl, hm, rfl, hw⟩ := hrel
            rw [hw]
            clear hw
            by_cases hltm : m < 5
            · have hltmI : (m : Int) < 5 := by omega
              have hm0 : (0 : Int) ≤ (m : Int) := by omega
              obtain ⟨c, hc⟩ : ∃ c, c = h[5 * i + m]?.getD 0 := ⟨_, rfl⟩
              have dc : wy.cell? ⟨g8, a5 + m, none⟩ = some (.int .u8 (c.toNat : Int)) := by
                have hl : 5 * i + m < h.length := by rw [HH.out.2]; omega
                rw [cell_of_heap H8.out.1, H8.out.2.1, hc, List.getElem?_eq_getElem hl]
                simp [hl, byteV]
              have HC := Lib.hid hc
              clear hc
              go_wp2
              go_roundw
              case rel =>
                refine ⟨m + 1, by simp, by omega, ?_, trivial⟩
                rw [nF, ← HC.out]
              case measure => simp [intOf]; omega
            · have hkI : (m : Int) = 5 := by omega
              have hkN : m = 5 := by omega
              rw [hkI, hkN]
              clear hkI hkN hm hltm
              go_wp2
              obtain ⟨N, hN⟩ : ∃ N, N = (nF h i 5).tmod 100000 := ⟨_, rfl⟩
              have HN := Lib.hid hN
              rw [← hN]
              clear hN
              go_loopw [14] (fun d wr2 => ∃ j : Nat, d = .int .u64 (divN j) ∧ j ≤ 5 ∧ Hid (Lib.IsBuilder 132 5 b b ((digF h i ++ (dig5 N).take j).map byteV) wr2 ∧ Below b w9 wr2)) (fun d _ => (intOf d).toNat)
              case atStart => exact ⟨0, rfl, by omega, by simpa using hR2⟩
              case round =>
                obtain ⟨wt, hwt⟩ : ∃ wt, wt = wr := ⟨_, rfl⟩
                rw [← hwt] at hrel ⊢
                clear hwt
                obtain ⟨j, rfl, hj, hR3⟩ := hrel
                by_cases hltj : j < 5
                · obtain ⟨d0, hd0⟩ : ∃ d0, d0 = divN j := ⟨_, rfl⟩
                  obtain ⟨d1, hd1⟩ : ∃ d1, d1 = divN (j + 1) := ⟨_, rfl⟩
                  have hdd : 0 < d0 ∧ d0.tdiv 10 = d1 ∧ IntKind.u64.wrap d1 = d1 ∧ (intOf (.int .u64 d1)).toNat < (intOf (.int .u64 d0)).toNat := by
                    rw [hd0, hd1]
                    have : j = 0 ∨ j = 1 ∨ j = 2 ∨ j = 3 ∨ j = 4 := by omega
                    rcases this with rfl | rfl | rfl | rfl | rfl <;> decide
                  have y1 : (0 : Int) < d0 := hdd.1
                  have y2 : d0.tdiv 10 = d1 := hdd.2.1
                  have y4 : IntKind.u64.wrap d1 = d1 := hdd.2.2.1
                  have y3 : d0 ≠ 0 := by omega
                  have HD := Lib.hid (show _ ∧ _ ∧ _ ∧ _ from ⟨hd0, hd1, hdd.2.2.2, hltj⟩)
                  rw [← hd0]
                  clear hd0 hd1 hdd
                  have hlen : ((digF h i ++ (dig5 N).take j).map byteV).length + 1 ≤ 140737488355328 := by
                    rw [List.length_map, List.length_append, digF_len, List.length_take]
                    omega
                  have hsz : b ≤ wt.heap.size := Nat.le_trans (Nat.le_of_lt H9.out.2.2.2.2) hR3.out.2.size
                  have HL := Lib.hid (show _ ∧ _ from ⟨hlen, hsz⟩)
                  clear hlen hsz
                  go_wp2_with (go_at_call 71; refine (Go.Proofs.Tryz.Builder_WriteByte b b ((digF h i ++ (dig5 N).take j).map byteV) _ wt hR3.out.1 HL.out.1 HL.out.2).mono ?_; rintro e wn ⟨rfl, hbn, hbel⟩; have HB := Lib.hid (show _ ∧ _ from ⟨hbn, hbel⟩); clear hbn hbel)
                  rw [byteOf_V] at HB
                  go_roundw
                  case rel =>
                    obtain ⟨e0, e1, e2, e3⟩ := HD.out
                    refine ⟨j + 1, by rw [e1], by omega, Lib.hid ⟨?_, hR3.out.2.trans HB.out.2⟩⟩
                    have e : (dig5 N).take (j + 1) = (dig5 N).take j ++ [chF N d0] := by
                      rw [e0]
                      have : j = 0 ∨ j = 1 ∨ j = 2 ∨ j = 3 ∨ j = 4 := by omega
                      rcases this with rfl | rfl | rfl | rfl | rfl <;> rfl
                    rw [e, ← List.append_assoc, List.map_append]
                    exact .inr HB.out.1
                  case measure => exact HD.out.2.2.1
                · have hjN : j = 5 := by omega
                  rw [hjN] at hR3 ⊢
                  clear hjN hj hltj
                  rw [show divN 5 = 0 from rfl]
                  go_wp2
                  go_roundw
                  case rel =>
                    refine ⟨i + 1, by simp, by omega, Lib.hid ⟨?_, hR3.out.2⟩⟩
                    have e : digF h (i + 1) = digF h i ++ (dig5 N).take 5 := by
                      unfold digF
                      rw [List.range_succ, List.flatMap_append, HN.out]
                      simp [dig5]
                    rw [e]
                    exact hR3.out.1
                  case measure => simp [intOf]; omega
        · have hkI : (i : Int) = 6 := by omega
          have hkN : i = 6 := by omega
          rw [hkN] at hR2
          rw [hkI]
          clear hkI hkN hn hlt
          go_wp2_with (go_at_call 72; refine (Go.Proofs.Tryz.Builder_String_any b b (digF h 6) wy hR2.out.1 (Nat.le_trans (Nat.le_of_lt H9.out.2.2.2.2) hR2.out.2.size)).mono ?_; rintro e wn ⟨rfl, hbel⟩)
          go_ret
          have hwb : w.heap.size ≤ b := by rw [HBB.out]; exact hR1.out.2.2.size
          refine ⟨?_, (H9.out.2.2.1.below' (hR2.out.2.mono hwb)).below' (hbel.mono hwb)⟩
          rw [HH.out.1]
          rfl
end Go.Proofs.YtdbceafejbnebaaGreatDoor
/-! trust.Number of two texts, of an account. -/
namespace Go.Proofs.YtdbceafejbnebaaGreatDoor
open Go Go.RowKit Go.Shelf
attribute [local go_sem] Oper.semAt_some
def minS (a b : ByteArray) : ByteArray := if (Op.bytesLess a.toList b.toList || a.toList == b.toList) = true then a else b
def maxS (a b : ByteArray) : ByteArray := if (!Op.bytesLess a.toList b.toList) = true then a else b
def numS (a b : ByteArray) : ByteArray := minS a b ++ maxS a b
theorem minS_or (a b : ByteArray) : minS a b = a ∨ minS a b = b := by
  unfold minS
  split
  · exact .inl rfl
  · exact .inr rfl
theorem maxS_or (a b : ByteArray) : maxS a b = a ∨ maxS a b = b := by
  unfold maxS
  split
  · exact .inl rfl
  · exact .inr rfl
theorem run_minS (ts : Array TypeId) (t : TypeId) (a b : ByteArray) (W : World) : (Builtin.min_ ts t #[.string a, .string b]).run Tryz.prog W = .ok (.string (minS a b)) W := by
  simp [Builtin.min_, Builtin.min2, Op.stringOp, asBool, minS]
theorem run_maxS (ts : Array TypeId) (t : TypeId) (a b : ByteArray) (W : World) : (Builtin.max_ ts t #[.string a, .string b]).run Tryz.prog W = .ok (.string (maxS a b)) W := by
  simp [Builtin.max_, Builtin.max2, Op.stringOp, asBool, maxS]
theorem num48 (a b : ByteArray) (ha : a.size = 30) (hb : b.size = 30) (w : World) : Calls Tryz.prog 48 #[.string a, .string b] w fun e w' => e = .returned (.string (numS a b)) ∧ w' = w := by
  have h1 : ∀ W, (Builtin.min_ #[9, 9] 9 #[.string a, .string b]).run Tryz.prog W = .ok (.string (minS a b)) W := run_minS _ _ a b
  have h2 : ∀ W, (Builtin.max_ #[9, 9] 9 #[.string a, .string b]).run Tryz.prog W = .ok (.string (maxS a b)) W := run_maxS _ _ a b
  have s1 : (minS a b).size = 30 := by rcases minS_or a b with h | h <;> rw [h] <;> assumption
  have s2 : (maxS a b).size = 30 := by rcases maxS_or a b with h | h <;> rw [h] <;> assumption
  go_enter Tryz.func48, Tryz.ntmps48
  go_wp2
  go_ret
  exact ⟨rfl, rfl⟩
/-- What Number tells of an account whose only key is that, or that has none. -/
noncomputable def numOf (acct : UInt8) (ko : K) (a : UInt8) : List Kn → Value
  | [x] => .tuple #[.string (numS ⟨(digK acct ko).toArray⟩ ⟨(digK a x.2).toArray⟩), .int .i64 0]
  | _ => .tuple #[.string ⟨#[]⟩, .int .i64 4]
def NumS (b g cap L g' cap' : Nat) (acct : UInt8) (w' : World) : Prop :=
  w'.cell? ⟨b, 0, none⟩ = some (.int .u8 (acct.toNat : Int)) ∧ w'.cell? ⟨b, 1, none⟩ = some (.slice (some ⟨g, 0, none⟩) 1 cap) ∧ w'.cell? ⟨L, 0, none⟩ = some (.slice (some ⟨g', 0, none⟩) 1 cap')
set_option maxHeartbeats 4000000 in
set_option maxRecDepth 100000 in
theorem number13 {w : World} {b g cap r : Nat} {acct : UInt8} {ko : K} {m : Cs} (hB : BookAt w b g cap r acct [ko] m) (a : UInt8) (hn : (knOf m a).length ≤ 1) :
    Calls Tryz.prog 13 #[bookV b, byteV a] w fun e w' => e = .returned (numOf acct ko a (knOf m a)) ∧ Upd [] w w' := by
  have HB := Lib.hid hB
  clear hB
  unfold bookV
  have h18 := fun W => keys18 (some ⟨b, 0, none⟩) a W
  unfold keysV at h18
  unfold byteV at h18 ⊢
  refine (callsIn_wide (n := 5)).1 (callsIn_of_wp_marks Tryz.func13 rfl trivial ?_ rfl)
  simp only [Tryz.ntmps13, List.size_toArray, List.length_cons, List.length_nil, Nat.reduceAdd, Nat.reduceSub, Array.replicate_succ, Array.replicate_zero, List.push_toArray, List.append_toArray, List.nil_append, List.cons_append]
  refine wpIn_wide.2 ?_
  go_upto_region 4 with fail
  obtain ⟨W1, hW1⟩ : ∃ X, w.alloc (Obj.cells #[Value.slice none 0 0] 28) = X := ⟨_, rfl⟩
  have hu1 : Upd [] w W1 := by rw [← hW1]; exact Upd.new w _
  have hb1 : W1.heap[w.heap.size]? = some (.cells #[.slice none 0 0] 28 (0, 0)) := by rw [← hW1]; exact heap_alloc_new w _
  obtain ⟨L, hL⟩ : ∃ L, L = w.heap.size := ⟨_, rfl⟩
  rw [hW1, ← hL]
  rw [← hL] at hb1
  have H1 := Lib.hid (show _ ∧ _ ∧ _ from ⟨hu1, hb1, hL⟩)
  clear hW1 hu1 hb1 hL
  go_wp2_with (go_at_call 18; refine (h18 _).mono ?_; clear h18; rintro e w3 ⟨rfl, rfl⟩)
  obtain ⟨W0, hW0⟩ : ∃ X, (W1.alloc (Obj.cells #[Value.pointer (some ⟨b, 0, none⟩)] 24)).alloc (Obj.cells #[Value.int IntKind.u8 (a.toNat : Int)] 5) = X := ⟨_, rfl⟩
  have hu01 : Upd [] W1 W0 := by rw [← hW0]; exact (Upd.new W1 _).trans (Upd.new _ _)
  have hs01 : W0.heap.size = W1.heap.size + 2 := by rw [← hW0]; simp
  have hb01 : W0.heap[W1.heap.size]? = some (.cells #[bookV b] 24 (0, 0)) := by rw [← hW0]; exact heap_alloc2_old W1 _ _
  have hb02 : W0.heap[W1.heap.size + 1]? = some (.cells #[byteV a] 5 (0, 0)) := by rw [← hW0]; exact heap_alloc2_new W1 _ _
  have hbL : W0.heap[L]? = some (.cells #[.slice none 0 0] 28 (0, 0)) := hu01.heap H1.out.2.1 (by simp)
  have hbook0 := (HB.out.upd0 H1.out.1).upd0 hu01
  rw [hW0]
  have HLL := Lib.hid (show _ ∧ _ from ⟨hs01, hu01⟩)
  clear hW0 hs01
  refine (wpIn_wide (n := 5)).1 ?_
  refine wpIn_rangeFunc_ownH rfl (by omega) (gf := 53) (lb := #[.pointer (some ⟨W1.heap.size, 0, none⟩), .pointer (some ⟨W1.heap.size + 1, 0, none⟩)]) rfl trivial (enters_of Tryz.func53 (by kernel_rfl) rfl)
    (keys_stops 4 (by omega) W1.heap.size (W1.heap.size + 1) a W0 hbook0 hb01 hb02) keepT_t (fun W l o o' _ h hc _ => keepT_b W l o o' h hc) (Below.refl _ _) (fun _ => rfl)
    (fun pre W => Upd [L] W0 W ∧ ∃ vv, W.heap[L]? = some (.cells #[vv] 28 (0, 0)) ∧ IsSl vv ∧ W.ownsRow W0.heap.size 31 32 vv pre.length ((pre.map (·.2)).flatMap keyCells))
    (fun _ _ _ => False)
    (fun pre X Y row hs hg hr => by
      obtain ⟨q1, vv, q2, q3, q4⟩ := hs
      have hr2 : ∀ r, row = some r → ∃ o : Obj, X.heap[r]? = some o ∧ o.isCells = false := fun r e => (hr r e).2
      exact ⟨kept_upd q1 hg (fun r e => (hr r e).1), vv, kept_cells hg hr2 q2, q3, kept_owns hg hr2 q4⟩)
    (fun _ _ _ _ _ hs _ _ => hs)
    ⟨Upd.refl _ _, .slice none 0 0, hbL, ⟨_, _, _, rfl⟩, ⟨rfl, .inl ⟨rfl, rfl⟩⟩⟩
    (fun x a' W => ∃ B4 : Nat, W.heap[B4]? = some (.cells (keyCells x.2).toArray 31 (0, 0)) ∧ a' = { tmps := #[.pointer (some ⟨b, 0, none⟩), .int .u8 (a.toNat : Int), undef, undef, .string ⟨#[]⟩, .int .i64 0, .pointer (some ⟨L, 0, none⟩), undef, .pointer (some ⟨B4, 0, none⟩), .pointer (some ⟨b, 0, none⟩), .bool false, .pointer (some ⟨b, 0, none⟩), .int .u8 (a.toNat : Int), .func (.func 53) #[] #[.pointer (some ⟨W1.heap.size, 0, none⟩), .pointer (some ⟨W1.heap.size + 1, 0, none⟩)], .agg #[.int .u8 (a.toNat : Int), .int .u8 (x.1.toNat : Int)], .agg (keyCells x.2).toArray, undef, undef, undef, undef, undef, undef, undef, undef, undef, undef, undef, undef, undef, undef, undef, undef, undef, undef, undef, undef], defers := [] })
    (fun x a' _ X Y row hs hg hr => by
      obtain ⟨B4, q2, q3⟩ := hs
      have hr2 : ∀ r, row = some r → ∃ o : Obj, X.heap[r]? = some o ∧ o.isCells = false := fun r e => (hr r e).2
      exact ⟨B4, kept_cells hg hr2 q2, q3⟩)
    ?assign ?body ?done ?stop
  case assign =>
    intro l pre x W K hi hK
    have hz31 : (W.alloc (.cells zc.toArray 31)).heap[W.heap.size]? = some (.cells zc.toArray 31 (0, 0)) := heap_alloc_new W _
    have HZ31 := Lib.hid hz31
    clear hz31
    simp only [encKn, devV]
    unfold byteV
    gi_wp2_with (first | (refine wpListIn_store_whole rfl 31 _ _ rfl W.heap.size (keyCells x.2).toArray zc.toArray rfl rfl HZ31.out (by simp [keyCells_len, zc_len]) (size31 (keyCells_len x.2)) (keyCells_all x.2) ?_))
    have ha := setRow_heap (W.alloc (.cells zc.toArray 31)) W.heap.size zc.toArray (keyCells x.2).toArray 31 (0, 0) HZ31.out
    have hu2 : Upd [] W ((W.alloc (.cells zc.toArray 31)).setRow W.heap.size (keyCells x.2).toArray) := (Upd.new W _).setRow (.inl (by omega)) _
    obtain ⟨hi1, vv, hi2, hi3, hi4⟩ := hi
    refine hK _ _ (keepsFrom_of_upd hu2 (by simp)) hu2.keepT0 ⟨hi1.trans (hu2.mono (by simp)), vv, hu2.heap hi2 (by simp), hi3, owns_upd hi4 hu2 (by simp)⟩ ⟨W.heap.size, ha, rfl⟩
  case body =>
    rintro l pre x a' W hl _ ⟨hu, vv, hLc, ⟨ad, an, ac, rfl⟩, hown⟩ ⟨B4, h4, rfl⟩ hlen
    obtain ⟨i0, hi, hz0, hz1, hz2⟩ := info_parts Tryz.info31
    have hs0 : W0.heap.size ≤ W.heap.size := hu.size
    have c1 : W.cell? ⟨L, 0, none⟩ = some (.slice ad an ac) := cell_of_heap hLc 0
    have c3 : W.rangeAt B4 0 (keyCells x.2) := by
      intro j u hj
      rw [cell_of_heap h4, Nat.zero_add]
      simp only [List.getElem?_toArray]
      exact hj
    have hua : Upd [] W (W.alloc (.cells (keyCells x.2).toArray 31)) := Upd.new W _
    have hna := heap_alloc_new W (.cells (keyCells x.2).toArray 31 (0, 0))
    have hpost : ∀ v1 w3, w3.ownsRow W0.heap.size 31 32 v1 (pre.length + 1) ((pre.map (·.2)).flatMap keyCells ++ keyCells x.2) → (W.alloc (.cells (keyCells x.2).toArray 31)).grownBy w3 (Value.slice ad an ac).ownBlock →
        Hid (w3.heap[L]? = some (.cells #[.slice ad an ac] 28 (0, 0)) ∧ IsSl v1 ∧ Upd [L] W0 (w3.setCell ⟨L, 0, none⟩ v1) ∧ KeepsFrom W0.heap.size W (w3.setCell ⟨L, 0, none⟩ v1) ∧ KeepT W (w3.setCell ⟨L, 0, none⟩ v1) ∧
          (w3.setCell ⟨L, 0, none⟩ v1).heap[L]? = some (.cells #[v1] 28 (0, 0)) ∧ (w3.setCell ⟨L, 0, none⟩ v1).ownsRow W0.heap.size 31 32 v1 (pre ++ [x]).length (((pre ++ [x]).map (·.2)).flatMap keyCells)) := by
      intro v1 w3 q1 q2
      have hL0 : L < W0.heap.size := lt_of_heap hbL
      have hob : ∀ q, (Value.slice ad an ac).ownBlock = some q → W0.heap.size ≤ q ∧ ∃ cs fz, W.heap[q]? = some (.cells cs 31 fz) := by
        intro q hq
        obtain ⟨_, ⟨z, _⟩ | ⟨g', cap', cur, z, z2, z3, _⟩⟩ := hown
        · rw [z] at hq; simp [Value.ownBlock] at hq
        · rw [z] at hq
          simp [Value.ownBlock] at hq
          subst hq
          exact ⟨z2, _, _, z3⟩
      have hu3 : Upd [L] W0 w3 := upd_grown (hu.trans (hua.mono (by simp))) q2 (fun q hq => (hob q hq).1)
      have hwq : Upd (match (Value.slice ad an ac).ownBlock with | some q => [q] | none => []) W w3 := by
        refine ⟨q2.os.trans hua.os, q2.tape.trans hua.tape, q2.output.trans hua.output, Nat.le_trans hua.size q2.size, fun q hq hS => ?_⟩
        refine (q2.block q (Nat.lt_of_lt_of_le hq hua.size) ?_).trans (hua.block q hq (by simp))
        intro e
        rw [← e] at hS
        simp at hS
      have hL3 : w3.heap[L]? = some (.cells #[.slice ad an ac] 28 (0, 0)) := by
        refine (q2.block L (Nat.lt_of_lt_of_le (lt_of_heap hLc) hua.size) ?_).trans (hua.heap hLc (by simp))
        intro e
        have := (hob L e.symm).1
        omega
      have hwL : Upd (L :: (match (Value.slice ad an ac).ownBlock with | some q => [q] | none => [])) W (w3.setCell ⟨L, 0, none⟩ v1) := (hwq.mono (fun x hx _ => List.mem_cons_of_mem _ hx)).setCell (.inr (by simp)) _
      have hcells : ∀ s ∈ (L :: (match (Value.slice ad an ac).ownBlock with | some q => [q] | none => [])), ∃ cs t fz, W.heap[s]? = some (.cells cs t fz) ∧ (t = 28 ∨ t = 31) := by
        intro s hs
        rcases List.mem_cons.1 hs with rfl | hs
        · exact ⟨_, _, _, hLc, .inl rfl⟩
        · cases hq : (Value.slice ad an ac).ownBlock with
          | none => rw [hq] at hs; simp at hs
          | some q =>
            rw [hq] at hs
            simp at hs
            subst hs
            obtain ⟨_, cs, fz, z⟩ := hob s hq
            exact ⟨cs, 31, fz, z, .inr rfl⟩
      refine Lib.hid ⟨hL3, owns_isSl q1, hu3.setCell (.inr (by simp)) _, keepsFrom_of_upd hwL (fun s hs => by obtain ⟨cs, t, fz, z, _⟩ := hcells s hs; exact ⟨cs, t, fz, z⟩), hwL.keepT ?_, heap_setCell_same hL3 0 _, ?_⟩
      · intro s hs cs t fz hz
        obtain ⟨cs', t', fz', z, ht⟩ := hcells s hs
        rw [hz] at z
        cases z
        rcases ht with rfl | rfl <;> decide
      · rw [List.length_append, List.map_append, List.flatMap_append]
        simp only [List.length_cons, List.length_nil, List.map_cons, List.map_nil, List.flatMap_cons, List.flatMap_nil, List.append_nil]
        refine ⟨q1.1, ?_⟩
        rcases q1.2 with z | ⟨g', cap', cur, z1, z2, z3, z4⟩
        · exact .inl z
        · exact .inr ⟨g', cap', cur, z1, z2, (Below.heap_setCell _ _ _ _ (by show g' ≠ L; omega)).trans z3, z4⟩
    have HP := Lib.hid hpost
    have HO := Lib.hid (show _ ∧ _ ∧ _ from ⟨owns_upd hown hua (by simp), hna, c3⟩)
    have hm1 : pre.length + 1 ≤ maxLen := Nat.le_trans (show pre.length + 1 ≤ 5 by omega) (by decide)
    have hm2 : (pre.length + 1) * 32 ≤ 140737488355328 := by omega
    have HM := Lib.hid (show _ ∧ _ ∧ _ from ⟨hm1, hm2, hs0⟩)
    clear hm1 hm2 hs0 hpost hua hna c3 hown h4 hLc
    gi_wp2_with (first
      | (refine wpListIn_load_mid rfl 31 _ rfl B4 0 rfl (keyCells x.2) _ HO.out.2.2 Tryz.underlying31 rfl (hu31 _) ?_)
      | (refine wpListIn_slice1 rfl 28 31 _ rfl (.agg (keyCells x.2).toArray) rfl (keyCells x.2) 32 rfl (keyCells_len x.2) (Lib.hid ⟨by omega, by omega⟩) i0 _ Tryz.underlying28 hi hz0 hz1 ?_)
      | (gi_at_builtin; refine wpListIn_append_own _ rfl _ _ 28 rfl W0.heap.size 31 i0 _ 32 32 Tryz.underlying28 hi hz0 hz1 hz2 rfl (by decide) _ pre.length _ rfl HO.out.1 _ 1 1 (keyCells x.2) rfl (by rw [keyCells_len]) (World.news_of_block HO.out.2.1) (keyCells_one x.2) HM.out.1 HM.out.2.1 (by have := HM.out.2.2; simp; omega) ?_; intro v1 w3 hown3 hgrow3 _; have HQ := HP.out v1 w3 hown3 hgrow3; have d1 := cell_of_heap HQ.out.1 0; have d2 := free_of_heap HQ.out.1 0; obtain ⟨a1, n1, k1, rfl⟩ := HQ.out.2.1))
    exact ⟨HQ.out.2.2.2.1, HQ.out.2.2.2.2.1, HQ.out.2.2.1, _, HQ.out.2.2.2.2.2.1, HQ.out.2.1, HQ.out.2.2.2.2.2.2⟩
  case done =>
    rintro D ys W hD rfl ⟨hu, vv, hLc, ⟨ad, an, ac, rfl⟩, hown⟩ hK
    have huW : Upd [] w W := (H1.out.1.trans HLL.out.2).trans' hu (by intro y hy; rw [List.mem_singleton] at hy; subst hy; exact .inr (by have := H1.out.2.2; omega))
    have dL : W.cell? ⟨L, 0, none⟩ = some (.slice ad an ac) := cell_of_heap hLc 0
    have hwD : w.heap.size ≤ D := by have := H1.out.1.size; have := HLL.out.2.size; omega
    have hmarks : ∀ W', Upd [] W W' → ∀ d ∈ [({ target := .collected D, args := #[] } : Deferred)], ∃ D', w.heap.size ≤ D' ∧ d = { target := .collected D', args := #[] } ∧ W'.heap[D']? = some (.deferred (some [])) := by
      intro W' hu' d hd
      rw [List.mem_singleton] at hd
      exact ⟨D, hwD, hd, hu'.heap hK (by simp)⟩
    have HMK := Lib.hid hmarks
    have HW := Lib.hid (show _ ∧ _ from ⟨huW, hLc⟩)
    clear hmarks hwD huW hK
    have hcase : knOf m a = [] ∨ ∃ x, knOf m a = [x] := by
      match hkn : knOf m a with
      | [] => exact .inl rfl
      | [x] => exact .inr ⟨x, rfl⟩
      | x :: y :: l => rw [hkn] at hn; simp at hn
    rcases hcase with hk | ⟨x, hk⟩
    · have han : an = 0 := by
        rw [hk] at hown
        obtain ⟨_, ⟨q, _⟩ | ⟨g', cap', cur, q, _⟩⟩ := hown
        · cases q; rfl
        · cases q; rfl
      have HKN := Lib.hid hk
      clear hown hLc hu hk hn hbook0 hb01 hb02 hbL hu01 hD
      rw [han] at dL
      clear han
      go_simp
      go_wp2
      refine leaves_marks (B := w.heap.size) _ W (HMK.out W (Upd.refl _ _)) (by simp) ?_
      intro w' a1 a2 a3 a4 a5 a6
      have hu' := HW.out.1
      refine ⟨_, results_tmp2 rfl _ _ _, ?_, ⟨a3.trans hu'.os, a4.trans hu'.tape, a5.trans hu'.output, Nat.le_trans hu'.size a6, fun q hq hS => (a1 q hq).trans (hu'.block q hq hS)⟩⟩
      rw [HKN.out]
      rfl
    · rw [hk] at hown
      obtain ⟨g', cap', e1, hg1, hc1⟩ := owns_some hown (by simp)
      rw [e1] at hown dL hLc
      have hrow : RowK W g' cap' [x.2] := (RowK.of_owns hown).1
      have hbook := HB.out.upd0 HW.out.1
      have HKN := Lib.hid hk
      have HR := Lib.hid (show _ ∧ _ from ⟨hrow, hbook⟩)
      have hL2 := HW.out.2
      rw [e1] at hL2
      have hS : ∀ w', Upd [] W w' → NumS b g cap L g' cap' acct w' := fun w' hu' =>
        ⟨cell_of_heap (hu'.heap hbook.cell (by simp)) 0, cell_of_heap (hu'.heap hbook.cell (by simp)) 1, cell_of_heap (hu'.heap hL2 (by simp)) 0⟩
      have hA : ∀ w', Upd [] W w' → Calls Tryz.prog 49 #[.int .u8 (acct.toNat : Int), .slice (some ⟨g, 0, none⟩) 1 cap] w' fun e w'' => e = .returned (.string ⟨(digK acct ko).toArray⟩) ∧ Upd [] w' w'' := fun w' hu' => digits49 acct g cap ko ((HR.out.2.upd0 hu').row)
      have hBb : ∀ w', Upd [] W w' → Calls Tryz.prog 49 #[.int .u8 (a.toNat : Int), .slice (some ⟨g', 0, none⟩) 1 cap'] w' fun e w'' => e = .returned (.string ⟨(digK a x.2).toArray⟩) ∧ Upd [] w' w'' := fun w' hu' => digits49 a g' cap' x.2 (HR.out.1.upd hu' (by simp))
      have hC := num48 ⟨(digK acct ko).toArray⟩ ⟨(digK a x.2).toArray⟩ (by simp [ByteArray.size, digK_len]) (by simp [ByteArray.size, digK_len])
      have HA := Lib.hid hA
      have HBB := Lib.hid hBb
      have HC := Lib.hid hC
      have HSS := Lib.hid hS
      clear hA hBb hC hS hown hLc hu hk hn hbook0 hb01 hb02 hbL hu01 hD hrow hbook hL2 hg1 hc1 e1
      go_simp
      go_upto_region 9 with fail
      have hq0 : Upd [] W W.drew := (Upd.refl [] W).drew
      go_region_held3 (fun w' => w'.cell? ⟨b, 0, none⟩ = some (.int .u8 (acct.toNat : Int)) ∧ w'.cell? ⟨b, 1, none⟩ = some (.slice (some ⟨g, 0, none⟩) 1 cap) ∧ w'.cell? ⟨L, 0, none⟩ = some (.slice (some ⟨g', 0, none⟩) 1 cap')) (first | exact HSS.out _ (by assumption))
        (first
          | (go_at_call 48; refine (HC.out _).mono ?_; rintro e wn ⟨rfl, rfl⟩)
          | (go_at_call 49; with_reducible refine (HA.out _ (by assumption)).mono ?_; rintro e wn ⟨rfl, hun⟩; have hun2 := Upd.trans (by assumption) hun)
          | (go_at_call 49; with_reducible refine (HBB.out _ (by assumption)).mono ?_; rintro e wn ⟨rfl, hun⟩; have hun2 := Upd.trans (by assumption) hun))
      all_goals
        go_wp2
        have hfin : Upd [] W wn := by assumption
        refine leaves_marks (B := w.heap.size) _ wn (HMK.out wn hfin) (by simp) ?_
        intro w' a1 a2 a3 a4 a5 a6
        have hu' := HW.out.1.trans hfin
        refine ⟨_, results_tmp2 rfl _ _ _, ?_, ⟨a3.trans hu'.os, a4.trans hu'.tape, a5.trans hu'.output, Nat.le_trans hu'.size a6, fun q hq hS => (a1 q hq).trans (hu'.block q hq hS)⟩⟩
        rw [HKN.out]
        rfl
  case stop =>
    rintro D c pre W _ _ h _
    exact h.elim
end Go.Proofs.YtdbceafejbnebaaGreatDoor
