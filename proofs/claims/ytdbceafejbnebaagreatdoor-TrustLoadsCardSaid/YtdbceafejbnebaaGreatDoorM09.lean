/- wire.PutList: known keys, accounts. wire.PutList: accounts. wire.PutList of accounts; NewOut, Bytes. -/
import Derived.Test.YtdbceafejbnebaaGreatDoorM08
import Derived.Test.YtdbceafejbnebaaGreatDoorM03
/-! wire.PutList: known keys, accounts. -/
namespace Go.Proofs.YtdbceafejbnebaaGreatDoor
open Go Go.RowKit
theorem flatG_len {α : Type} (enc : α → List Value) (n : Nat) (hn : ∀ x, (enc x).length = n) (l : List α) : (l.flatMap enc).length = l.length * n := by
  induction l with
  | nil => simp
  | cons k l ih => rw [List.flatMap_cons, List.length_append, ih, hn, List.length_cons, Nat.add_mul, Nat.one_mul, Nat.add_comm]
theorem flatG_at {α : Type} (enc : α → List Value) (n : Nat) (hn : ∀ x, (enc x).length = n) (l : List α) : ∀ (i j : Nat) (hi : i < l.length) (_hj : j < n), (l.flatMap enc)[i * n + j]? = (enc l[i])[j]? := by
  induction l with
  | nil => intro i j hi; simp at hi
  | cons k l ih =>
    intro i j hi hj
    rw [List.flatMap_cons]
    cases i with
    | zero => rw [Nat.zero_mul, Nat.zero_add, List.getElem?_append_left (by rw [hn]; exact hj)]; rfl
    | succ i =>
      have e : (i + 1) * n + j = n + (i * n + j) := by rw [Nat.add_mul, Nat.one_mul]; omega
      rw [e, List.getElem?_append_right (by rw [hn]; omega), hn, Nat.add_sub_cancel_left, ih i j (by simpa using hi) hj]
      rfl
theorem knCells_len (x : Kn) : (knCells x).length = 33 := by simp [knCells, keyCells_len]
theorem knCells_one (x : Kn) : ∀ v ∈ knCells x, v.oneCell' = true := by
  intro v hv
  rcases List.mem_cons.1 hv with rfl | hv
  · rfl
  · exact keyCells_one _ v hv
/-- Block gk is a row of known keys. -/
def RowN (w : World) (gk : Nat) (l : List Kn) : Prop := ∃ cur, w.heap[gk]? = some (.cells cur 73 (0, 0)) ∧ cur.toList.take (l.length * 33) = l.flatMap knCells
theorem RowN.range {w : World} {gk : Nat} {l : List Kn} (h : RowN w gk l) (i : Nat) (hi : i < l.length) : w.rangeAt gk (i * 33) (knCells l[i]) := by
  obtain ⟨cur, h1, h2⟩ := h
  intro j v hj
  have hj33 : j < 33 := by have := (List.getElem?_eq_some_iff.1 hj).1; rwa [knCells_len] at this
  have h3 := flatG_at knCells 33 knCells_len l i j hi hj33
  rw [hj, ← h2, List.getElem?_take, if_pos (by omega), Array.getElem?_toList] at h3
  rw [cell_of_heap h1]
  exact h3
theorem RowN.upd {S : List Nat} {w w' : World} {gk : Nat} {l : List Kn} (h : RowN w gk l) (hu : Upd S w w') (hS : gk ∉ S) : RowN w' gk l := by
  obtain ⟨cur, h1, h2⟩ := h
  exact ⟨cur, hu.heap h1 hS, h2⟩
def knsB (l : List Kn) : List UInt8 := l.flatMap knB
theorem knsB_len (l : List Kn) : (knsB l).length = l.length * 33 := by
  unfold knsB
  induction l with
  | nil => rfl
  | cons k l ih => rw [List.flatMap_cons, List.length_append, ih, List.length_cons, knB, List.length_cons, k.2.2]; omega
theorem hu73 (x : Kn) : (Tryz.prog.info? 73).map (·.size) = some (knCells x).length := by rw [Tryz.size73, knCells_len]
set_option maxHeartbeats 2000000 in
theorem putList43 {w : World} {p g : Nat} {xs : List UInt8} (ho : OutAt w p g xs) (most gk cap : Nat) (l : List Kn) (hr : RowN w gk l) (hm : most ≤ 100) (hn : l.length ≤ most) (hl : xs.length + 2 + l.length * 33 ≤ 65536) (hne : gk ≠ g) :
    Calls Tryz.prog 43 #[.pointer (some ⟨p, 0, none⟩), .int .i64 most, .slice (some ⟨gk, 0, none⟩) l.length cap, .func (.func 44) #[] #[]] w fun e w' => e = .returned (.tuple #[]) ∧ ∃ g', OutAt w' p g' (xs ++ lenB l.length ++ knsB l) ∧ (g' = g ∨ w.heap.size ≤ g') ∧ Upd [p, g] w w' := by
  have h64 := many64 ho most l.length hn hm (by omega)
  obtain ⟨v, h1, h2, h3⟩ := id ho
  have c2 : w.cell? ⟨p, 2, none⟩ = some (.bool false) := cell_of_heap h1 2
  have f2 : w.frozen? ⟨p, 2, none⟩ = false := free_of_heap h1 2
  have hss := Lib.hid (setCell_same h1 2 (.bool false) rfl)
  have hkp : gk ≠ p := by
    obtain ⟨cur, q, _⟩ := hr
    intro e
    rw [e, h1] at q
    simp at q
  have hfn : ∀ W, (binOp .eql 99 (.func (.func 44) #[] #[]) .nilFunc).run Tryz.prog W = .ok (.bool false) W := fun W => by kernel_rfl
  have hmI : (most : Int) ≤ 100 := by omega
  have hm0 : (0 : Int) ≤ (most : Int) := by omega
  have hmd : decide ((most : Int) < 0) = false := by simp
  have hnI : (l.length : Int) ≤ 100 := by omega
  have HR := Lib.hid hr
  have HL := Lib.hid hl
  clear ho hr hl h1 h2 h3
  go_enter Tryz.func43, Tryz.ntmps43
  go_upto_region 2 with fail
  rw [hss.out]
  clear c2 f2
  go_wp2_with (go_at_call 64; refine h64.mono ?_; clear h64; rintro e w1 ⟨rfl, g1, q1, q2, q3⟩; have HQ := Lib.hid (show _ ∧ _ ∧ _ from ⟨q1, q2, q3⟩); clear q1 q2 q3)
  go_loopw [35] (fun i wr => ∃ k g2 : Nat, i = .int .i64 (k : Int) ∧ k ≤ l.length ∧ Hid (OutAt wr p g2 (xs ++ lenB l.length ++ knsB (l.take k)) ∧ (g2 = g ∨ w.heap.size ≤ g2) ∧ Upd [p, g] w wr)) (fun i _ => l.length - (intOf i).toNat)
  case atStart =>
    refine ⟨0, g1, rfl, by omega, Lib.hid ⟨?_, HQ.out.2⟩⟩
    have := HQ.out.1
    rw [List.take_zero]
    simpa [knsB, lenB] using this
  case round =>
    obtain ⟨k, g2, rfl, hk, hI⟩ := hrel
    by_cases hlt : k < l.length
    · have hltI : (k : Int) < (l.length : Int) := by omega
      obtain ⟨i1, i2, i3⟩ := hI.out
      have hrr := (HR.out.upd i3 (by simp [hkp, hne])).range k hlt
      obtain ⟨lk, hlk⟩ : ∃ lk, lk = l[k] := ⟨_, rfl⟩
      rw [← hlk] at hrr
      have ha : (wr.alloc (.cells zkn.toArray 73)).heap[wr.heap.size]? = some (.cells zkn.toArray 73 (0, 0)) := heap_alloc_new wr _
      have hb := setRow_heap (wr.alloc (.cells zkn.toArray 73)) wr.heap.size zkn.toArray (knCells lk).toArray 73 (0, 0) ha
      have hu : Upd [] wr ((wr.alloc (.cells zkn.toArray 73)).setRow wr.heap.size (knCells lk).toArray) := (Upd.new wr _).setRow (.inl (Nat.le_refl _)) _
      have hlen : (xs ++ lenB l.length ++ knsB (l.take k)).length + 33 ≤ 65536 := by
        have := HL.out
        rw [List.length_append, List.length_append, knsB_len, List.length_take]
        simp only [lenB, List.length_cons, List.length_nil]
        omega
      have hcall := putKn44 (i1.upd hu (by simp) (by simp)) lk hlen
      have HK := Lib.hid (show _ ∧ _ ∧ _ from ⟨hlk, hrr, hu⟩)
      have HA := Lib.hid ha
      have HB := Lib.hid hb
      clear hlk hrr hu ha hb hlen i1 i2 i3
      go_wp2_with (first
        | (refine wpList_load_mid rfl 73 _ rfl gk (k * 33) rfl (knCells lk) _ HK.out.2.1 Tryz.underlying73 rfl (hu73 _) ?_)
        | (refine wpList_store_row rfl 73 _ _ rfl wr.heap.size (knCells lk).toArray rfl rfl 73 zkn.toArray HA.out (size73 (knCells_len lk)) (by simp [knCells_len, zkn, zc_len]) (all_oneCell_toArray (knCells_one lk)) ?_)
        | (refine wpList_load_row rfl 73 _ rfl wr.heap.size rfl 73 (knCells lk).toArray (0, 0) _ HB.out Tryz.underlying73 rfl (size73 (knCells_len lk)) ?_)
        | (go_at_call 44; refine hcall.mono ?_; rintro e w2 ⟨rfl, g3, q1, q2, q3⟩; have HG := Lib.hid (show _ ∧ _ ∧ _ from ⟨q1, q2, q3⟩); clear q1 q2 q3 hcall))
      go_roundw
      case rel =>
        obtain ⟨i1, i2, i3⟩ := hI.out
        obtain ⟨e1, _, hu⟩ := HK.out
        obtain ⟨q1, q2, q3⟩ := HG.out
        refine ⟨k + 1, g3, rfl, by omega, Lib.hid ⟨?_, ?_, ?_⟩⟩
        · have e : knsB (l.take (k + 1)) = knsB (l.take k) ++ knB lk := by
            unfold knsB
            rw [← List.take_append_getElem hlt, List.flatMap_append, e1]
            simp
          rw [e, ← List.append_assoc]
          exact q1
        · have s1 := i3.size
          have s2 := hu.size
          omega
        · refine (i3.trans (hu.mono (by simp))).trans' q3 ?_
          intro x hx
          have s1 := i3.size
          simp only [List.mem_cons, List.not_mem_nil, or_false] at hx ⊢
          omega
      case measure => simp [intOf]; omega
    · obtain rfl : k = l.length := by omega
      go_wp2
      go_end0
      refine ⟨rfl, g2, ?_⟩
      have := hI.out
      rw [List.take_length] at this
      exact this
end Go.Proofs.YtdbceafejbnebaaGreatDoor
/-! wire.PutList: accounts. -/
namespace Go.Proofs.YtdbceafejbnebaaGreatDoor
open Go Go.RowKit
theorem OutAt.ne {w : World} {p g q : Nat} {xs : List UInt8} (h : OutAt w p g xs) {cs : Array Value} {t : TypeId} (hq : w.heap[q]? = some (.cells cs t (0, 0))) (h1 : t ≠ 123) (h2 : t ≠ 5) : q ≠ p ∧ q ≠ g := by
  obtain ⟨v, z1, z2, z3⟩ := h
  have hp : q ≠ p := by
    intro e
    rw [e, z1] at hq
    simp only [Option.some.injEq, Obj.cells.injEq] at hq
    exact h1 hq.2.1.symm
  refine ⟨hp, ?_⟩
  rcases z3 with ⟨_, rfl⟩ | ⟨n, cap, rfl⟩
  · exact hp
  · intro e
    obtain ⟨_, y | ⟨g', cap', cur, hv, _, hg, _⟩⟩ := z2
    · cases y.1
    · cases hv
      rw [e, hg] at hq
      simp only [Option.some.injEq, Obj.cells.injEq] at hq
      exact h2 hq.2.1.symm
set_option maxHeartbeats 2000000 in
theorem putList43_none {w : World} {p g : Nat} {xs : List UInt8} (ho : OutAt w p g xs) (most : Nat) (a : Option Addr) (cap : Nat) (hm : most ≤ 100) (hl : xs.length + 2 ≤ 65536) :
    Calls Tryz.prog 43 #[.pointer (some ⟨p, 0, none⟩), .int .i64 most, .slice a 0 cap, .func (.func 44) #[] #[]] w fun e w' => e = .returned (.tuple #[]) ∧ ∃ g', OutAt w' p g' (xs ++ lenB 0) ∧ (g' = g ∨ w.heap.size ≤ g') ∧ Upd [p, g] w w' := by
  have h64 := many64 ho most 0 (by omega) hm (by omega)
  obtain ⟨v, h1, h2, h3⟩ := id ho
  have c2 : w.cell? ⟨p, 2, none⟩ = some (.bool false) := cell_of_heap h1 2
  have f2 : w.frozen? ⟨p, 2, none⟩ = false := free_of_heap h1 2
  have hss := Lib.hid (setCell_same h1 2 (.bool false) rfl)
  have hfn : ∀ W, (binOp .eql 99 (.func (.func 44) #[] #[]) .nilFunc).run Tryz.prog W = .ok (.bool false) W := fun W => by kernel_rfl
  have hmI : (most : Int) ≤ 100 := by omega
  have hm0 : (0 : Int) ≤ (most : Int) := by omega
  have hmd : decide ((most : Int) < 0) = false := by simp
  clear ho hl h1 h2 h3
  go_enter Tryz.func43, Tryz.ntmps43
  go_upto_region 2 with fail
  rw [hss.out]
  clear c2 f2
  go_wp2_with (go_at_call 64; refine h64.mono ?_; clear h64; rintro e w1 ⟨rfl, g1, q1, q2, q3⟩; have HQ := Lib.hid (show _ ∧ _ ∧ _ from ⟨q1, q2, q3⟩); clear q1 q2 q3)
  refine wp_loop_rounds 1 ?_
  rw [rounds_succ]
  go_wp2
  go_end0
  exact ⟨rfl, g1, HQ.out⟩
/-- PutList of an account's known keys, whatever its slice is. -/
theorem putKns {w : World} {p g : Nat} {xs : List UInt8} (ho : OutAt w p g xs) (most base : Nat) (v : Value) (l : List Kn) (hv : w.ownsRow base 73 33 v l.length (l.flatMap knCells)) (hsl : IsSl v) (hm : most ≤ 100) (hn : l.length ≤ most) (hl : xs.length + 2 + l.length * 33 ≤ 65536) :
    Calls Tryz.prog 43 #[.pointer (some ⟨p, 0, none⟩), .int .i64 most, v, .func (.func 44) #[] #[]] w fun e w' => e = .returned (.tuple #[]) ∧ ∃ g', OutAt w' p g' (xs ++ lenB l.length ++ knsB l) ∧ (g' = g ∨ w.heap.size ≤ g') ∧ Upd [p, g] w w' := by
  obtain ⟨q1, ⟨rfl, q2⟩ | ⟨gk, cap, cur, rfl, hb, hg, hnc, hmx, hs, ht⟩⟩ := hv
  · have : l = [] := List.length_eq_zero_iff.1 q2
    subst this
    refine (putList43_none ho most none 0 hm (by omega)).mono ?_
    rintro e w' ⟨rfl, g', z⟩
    exact ⟨rfl, g', by simpa [knsB] using z⟩
  · exact putList43 ho most gk cap l ⟨cur, hg, ht⟩ hm hn hl (ho.ne hg (by decide) (by decide)).2
def oneB (x : One) : List UInt8 := [x.1, x.2.1] ++ lenB x.2.2.length ++ knsB x.2.2
theorem OneAt.upd {S : List Nat} {base : Nat} {w w' : World} {x : One} {cs : List Value} (h : OneAt base w x cs) (hu : Upd S w w') (hS : ∀ k ∈ S, ∀ cur, w.heap[k]? ≠ some (Obj.cells cur 73 (0, 0))) : OneAt base w' x cs := h.same (SameRows.of_upd hu hS)
theorem OutAt.not73 {w : World} {p g : Nat} {xs : List UInt8} (h : OutAt w p g xs) : ∀ k ∈ [p, g], ∀ cur, w.heap[k]? ≠ some (Obj.cells cur 73 (0, 0)) := by
  intro k hk cur e
  have := h.ne e (by decide) (by decide)
  simp only [List.mem_cons, List.not_mem_nil, or_false] at hk
  omega
set_option maxHeartbeats 2000000 in
theorem putOne42 {w : World} {p g : Nat} {xs : List UInt8} (ho : OutAt w p g xs) (base : Nat) (x : One) (cs : List Value) (hx : OneAt base w x cs) (hn : x.2.2.length ≤ 4) (hl : xs.length + 4 + x.2.2.length * 33 ≤ 65536) :
    Calls Tryz.prog 42 #[.pointer (some ⟨p, 0, none⟩), .agg cs.toArray] w fun e w' => e = .returned (.tuple #[]) ∧ ∃ g', OutAt w' p g' (xs ++ oneB x) ∧ (g' = g ∨ w.heap.size ≤ g') ∧ Upd [p, g] w w' := by
  obtain ⟨a, s, l⟩ := x
  have hx0 := hx
  obtain ⟨v, rfl, hsl, hv⟩ := hx
  have hg := ho.glt
  have hp : p < w.heap.size := by obtain ⟨v, h1, _⟩ := ho; exact lt_of_heap h1
  have hu1 : Upd [] w ((w.alloc (.cells #[byteV a, byteV s, v] 70)).alloc (.cells #[byteV a, byteV s] 5)) := (Upd.new w _).trans (Upd.new _ _)
  have hbs := heap_alloc2_new w (.cells #[byteV a, byteV s, v] 70 (0, 0)) (.cells #[byteV a, byteV s] 5 (0, 0))
  have hbo := heap_alloc2_old w (.cells #[byteV a, byteV s, v] 70 (0, 0)) (.cells #[byteV a, byteV s] 5 (0, 0))
  have h38 := u8_38 (ho.upd hu1 (by simp) (by simp)) ⟨w.heap.size + 1, 0, none⟩ 2 [a, s] (World.news_of_block hbs) (by simp) (by simp; simp at hl; omega)
  have h43 : ∀ w1 g1, Hid (OutAt w1 p g1 (xs ++ [a, s]) ∧ (g1 = g ∨ w.heap.size ≤ g1) ∧ Upd [p, g] w w1) → Calls Tryz.prog 43 #[.pointer (some ⟨p, 0, none⟩), .int .i64 4, v, .func (.func 44) #[] #[]] w1 fun e w' => e = .returned (.tuple #[]) ∧ ∃ g', Hid (OutAt w' p g' (xs ++ oneB (a, s, l)) ∧ (g' = g ∨ w.heap.size ≤ g') ∧ Upd [p, g] w w') := by
    intro w1 g1 H
    obtain ⟨q1, q2, q3⟩ := H.out
    obtain ⟨v', e, _, hv1⟩ := hx0.upd q3 ho.not73
    simp only [List.cons.injEq, and_true, true_and] at e
    subst e
    refine (putKns q1 4 base _ l hv1 hsl (by omega) hn (by simp; simp at hl; omega)).mono ?_
    rintro e w2 ⟨rfl, g', z1, z2, z3⟩
    have s1 := q3.size
    refine ⟨rfl, g', Lib.hid ⟨?_, ?_, ?_⟩⟩
    · unfold oneB
      simp only [List.append_assoc] at z1 ⊢
      exact z1
    · omega
    · refine q3.trans' z3 ?_
      intro y hy
      simp only [List.mem_cons, List.not_mem_nil, or_false] at hy ⊢
      omega
  have hbx : ∀ w1, Upd [p, g] ((w.alloc (.cells #[byteV a, byteV s, v] 70)).alloc (.cells #[byteV a, byteV s] 5)) w1 → w1.cell? ⟨w.heap.size, 2, none⟩ = some v := by
    intro w1 h
    exact cell_of_heap (h.heap hbo (by simp; omega)) 2
  have HU := Lib.hid hu1
  have HBX := Lib.hid hbx
  obtain ⟨ad, vn, vc, rfl⟩ : ∃ ad n c, v = .slice ad n c := by
    obtain ⟨_, ⟨q, _⟩ | ⟨gk, cap, cur, q, _⟩⟩ := hv
    · exact ⟨_, _, _, q⟩
    · exact ⟨_, _, _, q⟩
  unfold byteV at *
  clear ho hl hu1 hbs hp hbo hx0 hv hbx hsl hg
  go_enter Tryz.func42, Tryz.ntmps42
  go_wp2_with (first
    | (go_at_call 38; refine h38.mono ?_; clear h38; rintro e w1 ⟨rfl, g1, q1, q2, q3⟩; have hx1 := HBX.out w1 q3; have HG : Hid (OutAt w1 p g1 (xs ++ [a, s]) ∧ (g1 = g ∨ w.heap.size ≤ g1) ∧ Upd [p, g] w w1) := Lib.hid ⟨q1, (by have := HU.out.size; omega), (HU.out.mono (by simp)).trans q3⟩; have hq43 := h43 w1 g1 HG; clear q1 q2 q3)
    | (go_at_call 43; refine hq43.mono ?_; clear hq43; rintro e w2 ⟨rfl, g2, H2⟩))
  go_end0
  exact ⟨rfl, g2, H2.out⟩
end Go.Proofs.YtdbceafejbnebaaGreatDoor
/-! wire.PutList of accounts; NewOut, Bytes. -/
namespace Go.Proofs.YtdbceafejbnebaaGreatDoor
open Go Go.RowKit
theorem OneAt.len {base : Nat} {w : World} {x : One} {cs : List Value} (h : OneAt base w x cs) : cs.length = 3 := by
  obtain ⟨v, rfl, _⟩ := h
  rfl
theorem OneAt.one {base : Nat} {w : World} {x : One} {cs : List Value} (h : OneAt base w x cs) : ∀ v ∈ cs, v.oneCell' = true := by
  obtain ⟨v, rfl, ⟨a, n, c, rfl⟩, _⟩ := h
  intro u hu
  simp only [List.mem_cons, List.not_mem_nil, or_false] at hu
  rcases hu with rfl | rfl | rfl <;> rfl
theorem OnesAt.get {base : Nat} {w : World} : ∀ {l : List One} {cells : List Value}, OnesAt base w l cells → ∀ (k : Nat) (hk : k < l.length), ∃ cs, OneAt base w l[k] cs ∧ ∀ (j : Nat) (u : Value), cs[j]? = some u → cells[k * 3 + j]? = some u
  | [], _, _, k, hk => by simp at hk
  | x :: l, cells, ⟨c, r, h1, h2, h3⟩, k, hk => by
    cases k with
    | zero =>
      refine ⟨c, h2, fun j u hj => ?_⟩
      rw [h1, Nat.zero_mul, Nat.zero_add, List.getElem?_append_left (List.getElem?_eq_some_iff.1 hj).1]
      exact hj
    | succ k =>
      obtain ⟨cs, h4, h5⟩ := h3.get k (by simpa using hk)
      refine ⟨cs, h4, fun j u hj => ?_⟩
      rw [h1, List.getElem?_append_right (by rw [h2.len]; omega), h2.len, show (k + 1) * 3 + j - 3 = k * 3 + j by omega]
      exact h5 j u hj
/-- Block gk is a row of accounts. -/
def RowO (base : Nat) (w : World) (gk : Nat) (l : List One) : Prop := ∃ cur cells, w.heap[gk]? = some (.cells cur 70 (0, 0)) ∧ cur.toList.take (l.length * 3) = cells ∧ OnesAt base w l cells
theorem RowO.upd {S : List Nat} {base : Nat} {w w' : World} {gk : Nat} {l : List One} (h : RowO base w gk l) (hu : Upd S w w') (h1 : gk ∉ S) (hS : ∀ k ∈ S, ∀ cur, w.heap[k]? ≠ some (Obj.cells cur 73 (0, 0))) : RowO base w' gk l := by
  obtain ⟨cur, cells, q1, q2, q3⟩ := h
  exact ⟨cur, cells, hu.heap q1 h1, q2, q3.same (SameRows.of_upd hu hS)⟩
theorem RowO.get {base : Nat} {w : World} {gk : Nat} {l : List One} (h : RowO base w gk l) (k : Nat) (hk : k < l.length) : ∃ cs, OneAt base w l[k] cs ∧ w.rangeAt gk (k * 3) cs := by
  obtain ⟨cur, cells, q1, q2, q3⟩ := h
  obtain ⟨cs, h4, h5⟩ := q3.get k hk
  refine ⟨cs, h4, fun j u hj => ?_⟩
  have hj3 : j < 3 := by have := (List.getElem?_eq_some_iff.1 hj).1; rwa [h4.len] at this
  have h6 := h5 j u hj
  rw [← q2, List.getElem?_take, if_pos (by omega), Array.getElem?_toList] at h6
  rw [cell_of_heap q1]
  exact h6
def onesB (l : List One) : List UInt8 := l.flatMap oneB
def z70 : List Value := [.int .u8 0, .int .u8 0, .slice none 0 0]
theorem size70 {cs : List Value} (h : cs.length = 3) : (Tryz.prog.info? 70).map (·.size) = some cs.toArray.size := by rw [Tryz.size70]; simp [h]
theorem onesB_len (l : List One) (h : ∀ x ∈ l, x.2.2.length ≤ 4) : (onesB l).length ≤ l.length * 136 := by
  unfold onesB
  induction l with
  | nil => simp
  | cons x l ih =>
    have h1 := ih (fun y hy => h y (List.mem_cons_of_mem _ hy))
    have h2 := h x (by simp)
    have h3 : (oneB x).length = 4 + x.2.2.length * 33 := by
      unfold oneB
      rw [List.length_append, List.length_append, knsB_len]
      simp [lenB]
    rw [List.flatMap_cons, List.length_append, List.length_cons, h3]
    omega
set_option maxHeartbeats 2000000 in
theorem putList41 {w : World} {p g : Nat} {xs : List UInt8} (ho : OutAt w p g xs) (base most gk cap : Nat) (l : List One) (hr : RowO base w gk l) (h4 : ∀ x ∈ l, x.2.2.length ≤ 4) (hm : most ≤ 100) (hn : l.length ≤ most) (hl : xs.length + 2 + l.length * 136 ≤ 65536) (hne : gk ≠ g) :
    Calls Tryz.prog 41 #[.pointer (some ⟨p, 0, none⟩), .int .i64 most, .slice (some ⟨gk, 0, none⟩) l.length cap, .func (.func 42) #[] #[]] w fun e w' => e = .returned (.tuple #[]) ∧ ∃ g', OutAt w' p g' (xs ++ lenB l.length ++ onesB l) ∧ (g' = g ∨ w.heap.size ≤ g') ∧ Upd [p, g] w w' := by
  have h64 := many64 ho most l.length hn hm (by omega)
  obtain ⟨v, h1, h2, h3⟩ := id ho
  have c2 : w.cell? ⟨p, 2, none⟩ = some (.bool false) := cell_of_heap h1 2
  have f2 : w.frozen? ⟨p, 2, none⟩ = false := free_of_heap h1 2
  have hss := Lib.hid (setCell_same h1 2 (.bool false) rfl)
  have hkp : gk ≠ p := by
    obtain ⟨cur, cells, q, _⟩ := hr
    intro e
    rw [e, h1] at q
    simp at q
  have hfn : ∀ W, (binOp .eql 100 (.func (.func 42) #[] #[]) .nilFunc).run Tryz.prog W = .ok (.bool false) W := fun W => by kernel_rfl
  have hmI : (most : Int) ≤ 100 := by omega
  have hm0 : (0 : Int) ≤ (most : Int) := by omega
  have hmd : decide ((most : Int) < 0) = false := by simp
  have hnI : (l.length : Int) ≤ 100 := by omega
  have HR := Lib.hid (show _ ∧ _ from ⟨hr, h4⟩)
  have HN73 := Lib.hid ho.not73
  have HL := Lib.hid hl
  clear ho hr h4 hl h1 h2 h3
  go_enter Tryz.func41, Tryz.ntmps41
  go_upto_region 2 with fail
  rw [hss.out]
  clear c2 f2
  go_wp2_with (go_at_call 64; refine h64.mono ?_; clear h64; rintro e w1 ⟨rfl, g1, q1, q2, q3⟩; have HQ := Lib.hid (show _ ∧ _ ∧ _ from ⟨q1, q2, q3⟩); clear q1 q2 q3)
  go_loopw [35] (fun i wr => ∃ k g2 : Nat, i = .int .i64 (k : Int) ∧ k ≤ l.length ∧ Hid (OutAt wr p g2 (xs ++ lenB l.length ++ onesB (l.take k)) ∧ (g2 = g ∨ w.heap.size ≤ g2) ∧ Upd [p, g] w wr)) (fun i _ => l.length - (intOf i).toNat)
  case atStart =>
    refine ⟨0, g1, rfl, by omega, Lib.hid ⟨?_, HQ.out.2⟩⟩
    have := HQ.out.1
    rw [List.take_zero]
    simpa [onesB, lenB] using this
  case round =>
    obtain ⟨k, g2, rfl, hk, hI⟩ := hrel
    by_cases hlt : k < l.length
    · have hltI : (k : Int) < (l.length : Int) := by omega
      obtain ⟨i1, i2, i3⟩ := hI.out
      have hrow := HR.out.1.upd i3 (by simp [hkp, hne]) HN73.out
      obtain ⟨cs, hone, hrr⟩ := hrow.get k hlt
      have h4k := HR.out.2 l[k] (List.getElem_mem hlt)
      obtain ⟨lk, hlk⟩ : ∃ lk, lk = l[k] := ⟨_, rfl⟩
      rw [← hlk] at hone h4k
      have hc3 := hone.len
      have hc1 := hone.one
      have ha : (wr.alloc (.cells z70.toArray 70)).heap[wr.heap.size]? = some (.cells z70.toArray 70 (0, 0)) := heap_alloc_new wr _
      have hb := setRow_heap (wr.alloc (.cells z70.toArray 70)) wr.heap.size z70.toArray cs.toArray 70 (0, 0) ha
      have hu : Upd [] wr ((wr.alloc (.cells z70.toArray 70)).setRow wr.heap.size cs.toArray) := (Upd.new wr _).setRow (.inl (Nat.le_refl _)) _
      have hlen : (xs ++ lenB l.length ++ onesB (l.take k)).length + 4 + lk.2.2.length * 33 ≤ 65536 := by
        have q := HL.out
        have q2 := onesB_len (l.take k) (fun x hx => HR.out.2 x (List.mem_of_mem_take hx))
        rw [List.length_take] at q2
        rw [List.length_append, List.length_append]
        simp only [lenB, List.length_cons, List.length_nil]
        omega
      have hcall := putOne42 (i1.upd hu (by simp) (by simp)) base lk cs (hone.upd hu (by simp)) h4k hlen
      have HK := Lib.hid (show _ ∧ _ ∧ _ ∧ _ ∧ _ from ⟨hlk, hrr, hu, hc3, hc1⟩)
      have HA := Lib.hid ha
      have HB := Lib.hid hb
      clear hlk hrr hu ha hb hlen i1 i2 i3 hc3 hc1 hone hrow h4k
      go_wp2_with (first
        | (refine wpList_load_mid rfl 70 _ rfl gk (k * 3) rfl cs _ HK.out.2.1 Tryz.underlying70 rfl (by rw [Tryz.size70, HK.out.2.2.2.1]) ?_)
        | (refine wpList_store_row rfl 70 _ _ rfl wr.heap.size cs.toArray rfl rfl 70 z70.toArray HA.out (size70 HK.out.2.2.2.1) (by simp [HK.out.2.2.2.1, z70]) (all_oneCell_toArray HK.out.2.2.2.2) ?_)
        | (refine wpList_load_row rfl 70 _ rfl wr.heap.size rfl 70 cs.toArray (0, 0) _ HB.out Tryz.underlying70 rfl (size70 HK.out.2.2.2.1) ?_)
        | (go_at_call 42; refine hcall.mono ?_; rintro e w2 ⟨rfl, g3, q1, q2, q3⟩; have HG := Lib.hid (show _ ∧ _ ∧ _ from ⟨q1, q2, q3⟩); clear q1 q2 q3 hcall))
      go_roundw
      case rel =>
        obtain ⟨i1, i2, i3⟩ := hI.out
        obtain ⟨e1, _, hu, _⟩ := HK.out
        obtain ⟨q1, q2, q3⟩ := HG.out
        refine ⟨k + 1, g3, rfl, by omega, Lib.hid ⟨?_, ?_, ?_⟩⟩
        · have e : onesB (l.take (k + 1)) = onesB (l.take k) ++ oneB lk := by
            unfold onesB
            rw [← List.take_append_getElem hlt, List.flatMap_append, e1]
            simp
          rw [e, ← List.append_assoc]
          exact q1
        · have s1 := i3.size
          have s2 := hu.size
          omega
        · refine (i3.trans (hu.mono (by simp))).trans' q3 ?_
          intro x hx
          have s1 := i3.size
          simp only [List.mem_cons, List.not_mem_nil, or_false] at hx ⊢
          omega
      case measure => simp [intOf]; omega
    · obtain rfl : k = l.length := by omega
      go_wp2
      go_end0
      refine ⟨rfl, g2, ?_⟩
      have := hI.out
      rw [List.take_length] at this
      exact this
set_option maxHeartbeats 2000000 in
theorem putList41_none {w : World} {p g : Nat} {xs : List UInt8} (ho : OutAt w p g xs) (most : Nat) (a : Option Addr) (cap : Nat) (hm : most ≤ 100) (hl : xs.length + 2 ≤ 65536) :
    Calls Tryz.prog 41 #[.pointer (some ⟨p, 0, none⟩), .int .i64 most, .slice a 0 cap, .func (.func 42) #[] #[]] w fun e w' => e = .returned (.tuple #[]) ∧ ∃ g', OutAt w' p g' (xs ++ lenB 0) ∧ (g' = g ∨ w.heap.size ≤ g') ∧ Upd [p, g] w w' := by
  have h64 := many64 ho most 0 (by omega) hm (by omega)
  obtain ⟨v, h1, h2, h3⟩ := id ho
  have c2 : w.cell? ⟨p, 2, none⟩ = some (.bool false) := cell_of_heap h1 2
  have f2 : w.frozen? ⟨p, 2, none⟩ = false := free_of_heap h1 2
  have hss := Lib.hid (setCell_same h1 2 (.bool false) rfl)
  have hfn : ∀ W, (binOp .eql 100 (.func (.func 42) #[] #[]) .nilFunc).run Tryz.prog W = .ok (.bool false) W := fun W => by kernel_rfl
  have hmI : (most : Int) ≤ 100 := by omega
  have hm0 : (0 : Int) ≤ (most : Int) := by omega
  have hmd : decide ((most : Int) < 0) = false := by simp
  clear ho hl h1 h2 h3
  go_enter Tryz.func41, Tryz.ntmps41
  go_upto_region 2 with fail
  rw [hss.out]
  clear c2 f2
  go_wp2_with (go_at_call 64; refine h64.mono ?_; clear h64; rintro e w1 ⟨rfl, g1, q1, q2, q3⟩; have HQ := Lib.hid (show _ ∧ _ ∧ _ from ⟨q1, q2, q3⟩); clear q1 q2 q3)
  refine wp_loop_rounds 1 ?_
  rw [rounds_succ]
  go_wp2
  go_end0
  exact ⟨rfl, g1, HQ.out⟩
theorem putOnes {w : World} {p g : Nat} {xs : List UInt8} (ho : OutAt w p g xs) (most base b2 : Nat) (v : Value) (l : List One) (cells : List Value) (hv : w.ownsRow b2 70 3 v l.length cells) (hc : OnesAt base w l cells) (h4 : ∀ x ∈ l, x.2.2.length ≤ 4) (hm : most ≤ 100) (hn : l.length ≤ most) (hl : xs.length + 2 + l.length * 136 ≤ 65536) :
    Calls Tryz.prog 41 #[.pointer (some ⟨p, 0, none⟩), .int .i64 most, v, .func (.func 42) #[] #[]] w fun e w' => e = .returned (.tuple #[]) ∧ ∃ g', OutAt w' p g' (xs ++ lenB l.length ++ onesB l) ∧ (g' = g ∨ w.heap.size ≤ g') ∧ Upd [p, g] w w' := by
  obtain ⟨q1, ⟨rfl, q2⟩ | ⟨gk, cap, cur, rfl, hb, hg, hnc, hmx, hs, ht⟩⟩ := hv
  · have : l = [] := List.length_eq_zero_iff.1 q2
    subst this
    refine (putList41_none ho most none 0 hm (by omega)).mono ?_
    rintro e w' ⟨rfl, g', z⟩
    exact ⟨rfl, g', by simpa [onesB] using z⟩
  · exact putList41 ho base most gk cap l ⟨cur, cells, hg, ht, hc⟩ h4 hm hn hl (ho.ne hg (by decide) (by decide)).2
theorem newOut37 (w : World) : Calls Tryz.prog 37 #[.int .i64 65536] w fun e w' => e = .returned (.pointer (some ⟨w.heap.size, 0, none⟩)) ∧ OutAt w' w.heap.size w.heap.size [] ∧ Upd [] w w' := by
  go_enter Tryz.func37, Tryz.ntmps37
  go_wp2
  go_ret
  exact ⟨rfl, ⟨_, heap_alloc_new w _, ⟨rfl, .inl ⟨rfl, rfl⟩⟩, .inl ⟨rfl, rfl⟩⟩, Upd.new w _⟩
set_option maxHeartbeats 1000000 in
theorem bytes45 {w : World} {p g : Nat} {xs : List UInt8} (ho : OutAt w p g xs) (h0 : 0 < xs.length) (hl : xs.length ≤ 65536) :
    Calls Tryz.prog 45 #[.pointer (some ⟨p, 0, none⟩)] w fun e w' => ∃ h cap, e = .returned (.tuple #[.slice (some ⟨h, 0, none⟩) xs.length cap, .int .i64 0]) ∧ w'.ownsRow w.heap.size 5 1 (.slice (some ⟨h, 0, none⟩) xs.length cap) xs.length (xs.map byteV) ∧ Upd [] w w' := by
  obtain ⟨v, h1, h2, h3⟩ := ho
  obtain ⟨q1, ⟨rfl, q2⟩ | ⟨gb, cap, cur, rfl, hb, hg, hnc, hmx, hs, ht⟩⟩ := h2
  · omega
  · have c0 : w.cell? ⟨p, 0, none⟩ = some (.slice (some ⟨gb, 0, none⟩) xs.length cap) := cell_of_heap h1 0
    have c1 : w.cell? ⟨p, 1, none⟩ = some (.int .i64 65536) := cell_of_heap h1 1
    have c2 : w.cell? ⟨p, 2, none⟩ = some (.bool false) := cell_of_heap h1 2
    obtain ⟨i0, hi, hz0, hz1, hz2⟩ := info_parts Tryz.info5
    have hshow : ∀ j u, (xs.map byteV)[j]? = some u → (w.alloc (.cells #[] 5)).cell? ((⟨gb, 0, none⟩ : Addr).add j) = some u := by
      intro j u hj
      rw [Addr.add_lit, cell_of_heap ((Upd.new w (.cells #[] 5)).heap hg (by simp)), Nat.zero_add]
      have hjl : j < xs.length := by simpa using (List.getElem?_eq_some_iff.1 hj).1
      rw [← ht, List.getElem?_take, if_pos (by omega), Array.getElem?_toList] at hj
      exact hj
    have HS := Lib.hid hshow
    have hm1 : 0 + xs.length ≤ maxLen := by rw [Nat.zero_add]; exact Nat.le_trans hl (by decide)
    have hm2 : (0 + xs.length) * 1 ≤ 140737488355328 := by omega
    have HM := Lib.hid (show _ ∧ _ from ⟨hm1, hm2⟩)
    have c0a : (w.alloc (.cells #[] 5)).cell? ⟨p, 0, none⟩ = some (.slice (some ⟨gb, 0, none⟩) xs.length cap) := cell_of_heap ((Upd.new w (.cells #[] 5)).heap h1 (by simp)) 0
    clear h1 h3 hg ht hshow hm1 hm2 hl hs hmx
    go_enter Tryz.func45, Tryz.ntmps45
    go_wp2_with (at_builtin; refine wpList_append_own _ rfl _ _ 22 rfl w.heap.size 5 i0 _ 1 1 Tryz.underlying22 hi hz0 hz1 hz2 rfl (by decide) _ 0 [] rfl (World.ownsRow_made w #[] 0 (Nat.le_refl _) (Nat.zero_le _) (by simp)) ⟨gb, 0, none⟩ xs.length cap (xs.map byteV) rfl (by simp) HS.out (by intro u hu; obtain ⟨y, _, rfl⟩ := List.mem_map.1 hu; rfl) HM.out.1 HM.out.2 (by simp) ?_; intro v1 w1 hown1 hgrow1 hnil1)
    go_ret2
    obtain ⟨h, c', rfl⟩ := owns_slice hown1 (by
      intro e
      have := hnil1.1 e
      omega)
    rw [Nat.zero_add] at hown1 ⊢
    refine ⟨h, c', rfl, by simpa using hown1, ?_⟩
    exact upd_grown (Upd.new w _) hgrow1 (by
      intro k hk
      simp [Value.ownBlock, Act.eval] at hk
      omega)
end Go.Proofs.YtdbceafejbnebaaGreatDoor
