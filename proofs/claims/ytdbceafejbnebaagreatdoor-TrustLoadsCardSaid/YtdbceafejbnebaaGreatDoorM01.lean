/- Words for memory that the walks of this claim share. What the reader of bytes (wire.In) does, call by call. The reader's lists and its end; the reader's making. -/
import Derived.Test.YtdbceafejbnebaaGreatDoorProg
import Derived.WalkKit
import Derived.WalkLawsBesides
import Derived.WalkSpells
import Derived.Lib.Hide
import Derived.Outline
/-! Words for memory that the walks of this claim share. -/
namespace Go.Proofs.YtdbceafejbnebaaGreatDoor
open Go Go.RowKit

/-- Of the blocks that were there, none but those of S has turned; the streams are as they were. -/
structure Upd (S : List Nat) (w w' : World) : Prop where
  os : w'.os = w.os
  tape : w'.tape = w.tape
  output : w'.output = w.output
  size : w.heap.size ≤ w'.heap.size
  block : ∀ k, k < w.heap.size → k ∉ S → w'.heap[k]? = w.heap[k]?

theorem Upd.refl (S : List Nat) (w : World) : Upd S w w := ⟨rfl, rfl, rfl, Nat.le_refl _, fun _ _ _ => rfl⟩
theorem Upd.trans {S : List Nat} {a b c : World} (h : Upd S a b) (k : Upd S b c) : Upd S a c :=
  ⟨k.os.trans h.os, k.tape.trans h.tape, k.output.trans h.output, Nat.le_trans h.size k.size, fun i hi hS => (k.block i (Nat.lt_of_lt_of_le hi h.size) hS).trans (h.block i hi hS)⟩
theorem Upd.mono {S T : List Nat} {w w' : World} (h : Upd S w w') (hs : ∀ k, k ∈ S → k < w.heap.size → k ∈ T) : Upd T w w' :=
  ⟨h.os, h.tape, h.output, h.size, fun k hk hT => h.block k hk (fun hS => hT (hs k hS hk))⟩
theorem Upd.drew {S : List Nat} {a w : World} (h : Upd S a w) : Upd S a w.drew := ⟨h.os, h.tape, h.output, h.size, h.block⟩
theorem Upd.drewN {S : List Nat} {a w : World} (h : Upd S a w) (n : Nat) : Upd S a (w.drewN n) := ⟨h.os, h.tape, h.output, h.size, h.block⟩
theorem Upd.alloc {S : List Nat} {a w : World} (h : Upd S a w) (o : Obj) : Upd S a (w.alloc o) :=
  h.trans ⟨rfl, rfl, rfl, by simp, fun k hk _ => Below.heap_alloc _ _ _ hk⟩
theorem Upd.setCell {S : List Nat} {a w : World} (h : Upd S a w) {p : Addr} (hp : a.heap.size ≤ p.block ∨ p.block ∈ S) (u : Value) : Upd S a (w.setCell p u) := by
  refine ⟨h.os, h.tape, h.output, Nat.le_trans h.size (by simp [World.setCell]), fun k hk hS => ?_⟩
  have hne : k ≠ p.block := by
    rcases hp with hp | hp
    · omega
    · intro e; rw [e] at hS; exact hS hp
  rw [Below.heap_setCell _ _ _ _ hne]
  exact h.block k hk hS
theorem Upd.below {S : List Nat} {a w w' : World} (h : Upd S a w) (hb : Below w.heap.size w w') : Upd S a w' :=
  h.trans ⟨hb.os, hb.tape, hb.output, hb.size, fun k hk _ => hb.block k hk⟩
theorem Upd.toBelow {S : List Nat} {w w' : World} (h : Upd S w w') {B : Nat} (hB : B ≤ w.heap.size) (hS : ∀ k, k ∈ S → B ≤ k) : Below B w w' :=
  ⟨h.os, h.tape, h.output, h.size, fun k hk => h.block k (by omega) (fun hk' => by have := hS k hk'; omega)⟩
theorem Upd.heap {S : List Nat} {w w' : World} (h : Upd S w w') {k : Nat} {o : Obj} (hk : w.heap[k]? = some o) (hS : k ∉ S) : w'.heap[k]? = some o :=
  (h.block k (Array.getElem?_eq_some_iff.1 hk).1 hS).trans hk
theorem lt_of_heap {w : World} {k : Nat} {o : Obj} (hk : w.heap[k]? = some o) : k < w.heap.size := (Array.getElem?_eq_some_iff.1 hk).1

/-- A cell of a block that is known whole. -/
theorem cell_of_heap {w : World} {b : Nat} {cs : Array Value} {t : TypeId} {fz : Nat × Nat} (h : w.heap[b]? = some (.cells cs t fz)) (o : Nat) : w.cell? ⟨b, o, none⟩ = cs[o]? := by simp [World.cell?, h]
theorem free_of_heap {w : World} {b : Nat} {cs : Array Value} {t : TypeId} (h : w.heap[b]? = some (.cells cs t (0, 0))) (o : Nat) : w.frozen? ⟨b, o, none⟩ = false := by simp [World.frozen?, h]
theorem heap_setCell_same {w : World} {b : Nat} {cs : Array Value} {t : TypeId} {fz : Nat × Nat} (h : w.heap[b]? = some (.cells cs t fz)) (o : Nat) (v : Value) :
    (w.setCell ⟨b, o, none⟩ v).heap[b]? = some (.cells (cs.setIfInBounds o v) t fz) := by
  simp [World.setCell, Array.getElem?_modify, h]

/-- The slice v shows the bytes xs, in block g. -/
def SlB (w : World) (g : Nat) (v : Value) (xs : List UInt8) : Prop :=
  ∃ off cap row fz, v = .slice (some ⟨g, off, none⟩) xs.length cap ∧ xs.length ≤ cap ∧ cap ≤ maxLen ∧ w.heap[g]? = some (.cells row 5 fz) ∧
    ∀ i (h : i < xs.length), row[off + i]? = some (.int .u8 (xs[i].toNat : Int))
theorem SlB.upd {S : List Nat} {w w' : World} {g : Nat} {v : Value} {xs : List UInt8} (h : SlB w g v xs) (hu : Upd S w w') (hS : g ∉ S) : SlB w' g v xs := by
  obtain ⟨off, cap, row, fz, h1, h2, h3, h4, h5⟩ := h
  exact ⟨off, cap, row, fz, h1, h2, h3, hu.heap h4 hS, h5⟩
end Go.Proofs.YtdbceafejbnebaaGreatDoor
/-! What the reader of bytes (wire.In) does, call by call. -/
namespace Go.Proofs.YtdbceafejbnebaaGreatDoor
open Go Go.RowKit

/-- A reader at block p, over block g: 'some xs': xs are left; 'none': something was wrong. -/
def IsIn (w : World) (p g : Nat) : Option (List UInt8) → Prop
  | some xs => g ≠ p ∧ ∃ v, w.heap[p]? = some (.cells #[v, .bool false] 115 (0, 0)) ∧ SlB w g v xs
  | none => g ≠ p ∧ ∃ a n c, w.heap[p]? = some (.cells #[.slice a n c, .bool true] 115 (0, 0))

set_option maxHeartbeats 400000 in
theorem take_none (p g n : Nat) (w : World) (hi : IsIn w p g none) :
    Calls Tryz.prog 77 #[.pointer (some ⟨p, 0, none⟩), .int .i64 n] w fun e w' => e = .returned (.slice none 0 0) ∧ Upd [p] w w' ∧ IsIn w' p g none := by
  obtain ⟨hg, a, l, c, hp⟩ := hi
  have c0 := cell_of_heap hp 0
  have c1 := cell_of_heap hp 1
  simp at c0 c1
  have f1 := free_of_heap hp 1
  have hfin := heap_setCell_same hp 1 (.bool true)
  simp at hfin
  have H := Lib.hid hfin
  clear hfin hp
  go_enter Tryz.func77, Tryz.ntmps77
  go_wp2
  go_ret
  exact ⟨rfl, (Upd.refl _ _).setCell (.inr (by simp)) _, hg, a, l, c, H.out⟩

set_option maxHeartbeats 400000 in
theorem take_few (p g n : Nat) (xs : List UInt8) (w : World) (hi : IsIn w p g (some xs)) (hn : xs.length < n) (hb : n < 2 ^ 62) :
    Calls Tryz.prog 77 #[.pointer (some ⟨p, 0, none⟩), .int .i64 n] w fun e w' => e = .returned (.slice none 0 0) ∧ Upd [p] w w' ∧ IsIn w' p g none := by
  obtain ⟨hg, v, hp, off, cap, row, fz, rfl, hl, hc, hrow⟩ := hi
  have c0 := cell_of_heap hp 0
  have c1 := cell_of_heap hp 1
  simp at c0 c1
  have f1 := free_of_heap hp 1
  have hfin := heap_setCell_same hp 1 (.bool true)
  simp at hfin
  have H := Lib.hid hfin
  have hn' : (xs.length : Int) < (n : Int) := by omega
  have hn2 : (0 : Int) ≤ (n : Int) := by omega
  clear hfin hp hrow
  go_enter Tryz.func77, Tryz.ntmps77
  go_wp2
  go_ret
  exact ⟨rfl, (Upd.refl _ _).setCell (.inr (by simp)) _, hg, _, _, _, H.out⟩

theorem take_close {w : World} {p g n off cap off2 : Nat} {xs : List UInt8} {row : Array Value} {fz : Nat × Nat} (hg : g ≠ p)
    (hp : w.heap[p]? = some (.cells #[.slice (some ⟨g, off, none⟩) xs.length cap, .bool false] 115 (0, 0))) (hl : xs.length ≤ cap) (hc : cap ≤ maxLen)
    (hrow : w.heap[g]? = some (.cells row 5 fz)) (hr : ∀ i (h : i < xs.length), row[off + i]? = some (.int .u8 (xs[i].toNat : Int))) (hn : n ≤ xs.length) (ho : off2 = off + n ∨ cap = n) :
    let w' := (w.setCell ⟨p, 1, none⟩ (.bool false)).setCell ⟨p, 0, none⟩ (.slice (some ⟨g, off2, none⟩) (xs.length - n) (cap - n))
    Upd [p] w w' ∧ IsIn w' p g (some (xs.drop n)) ∧ SlB w' g (.slice (some ⟨g, off, none⟩) n n) (xs.take n) := by
  have hu : Upd [p] w ((w.setCell ⟨p, 1, none⟩ (.bool false)).setCell ⟨p, 0, none⟩ (.slice (some ⟨g, off2, none⟩) (xs.length - n) (cap - n))) :=
    ((Upd.refl _ _).setCell (.inr (by simp)) _).setCell (.inr (by simp)) _
  have h1 := heap_setCell_same hp 1 (.bool false)
  have h2 := heap_setCell_same h1 0 (.slice (some ⟨g, off2, none⟩) (xs.length - n) (cap - n))
  have hg' := hu.heap hrow (by simpa using hg)
  refine ⟨hu, ⟨hg, _, by simpa using h2, off2, cap - n, row, fz, by simp, by simp; omega, by omega, hg', ?_⟩, off, n, row, fz, by simp [Nat.min_eq_left hn], by simp [Nat.min_le_left], by omega, hg', ?_⟩
  · intro i hi
    have hi' : i < xs.length - n := by simpa using hi
    rcases ho with rfl | rfl
    · have := hr (n + i) (by omega)
      simp only [List.getElem_drop]
      rw [Nat.add_assoc]
      exact this
    · omega
  · intro i hi
    have hi' : i < n := by simp at hi; omega
    have := hr i (by omega)
    simp only [List.getElem_take]
    exact this

set_option maxHeartbeats 400000 in
theorem take_some (p g n : Nat) (xs : List UInt8) (w : World) (hi : IsIn w p g (some xs)) (hn : n ≤ xs.length) :
    Calls Tryz.prog 77 #[.pointer (some ⟨p, 0, none⟩), .int .i64 n] w fun e w' => ∃ v, e = .returned v ∧ Upd [p] w w' ∧ IsIn w' p g (some (xs.drop n)) ∧ SlB w' g v (xs.take n) := by
  obtain ⟨hg, v, hp, off, cap, row, fz, rfl, hl, hc, hrow⟩ := hi
  have c0 := cell_of_heap hp 0
  have c1 := cell_of_heap hp 1
  simp at c0 c1
  have f0 := free_of_heap hp 0
  have f1 := free_of_heap hp 1
  have H := Lib.hid hp
  have Hrow := Lib.hid hrow
  have hn' : (n : Int) ≤ (xs.length : Int) := by omega
  have hn2 : (0 : Int) ≤ (n : Int) := by omega
  have hl2 : (xs.length : Int) ≤ (cap : Int) := by omega
  have d1 : decide ((n : Int) < 0) = false := by simp
  have hc' := hc
  unfold maxLen at hc
  clear hp hrow
  go_enter Tryz.func77, Tryz.ntmps77
  go_wp2
  all_goals go_ret
  · have hcn : cap = n := by assumption
    obtain ⟨h1, h2, h3⟩ := take_close (off2 := off) hg H.out hl hc' Hrow.out.1 Hrow.out.2 hn (.inr hcn)
    rw [show cap - n = 0 by omega] at h1 h2 h3
    exact ⟨_, rfl, h1, h2, h3⟩
  · obtain ⟨h1, h2, h3⟩ := take_close (off2 := off + n) hg H.out hl hc' Hrow.out.1 Hrow.out.2 hn (.inl rfl)
    exact ⟨_, rfl, h1, h2, h3⟩


/-- What is left behind a take of n bytes; the bytes that it tells. -/
def rTake (n : Nat) (st : Option (List UInt8)) : Option (List UInt8) := st.bind fun xs => if n ≤ xs.length then some (xs.drop n) else none
def rGet (n : Nat) (st : Option (List UInt8)) : List UInt8 := (st.map fun xs => if n ≤ xs.length then xs.take n else []).getD []
/-- Are there n bytes? -/
def rHas (n : Nat) (st : Option (List UInt8)) : Prop := ∃ xs, st = some xs ∧ n ≤ xs.length
theorem rTake_has {n : Nat} {xs : List UInt8} (h : n ≤ xs.length) : rTake n (some xs) = some (xs.drop n) := by simp [rTake, h]
theorem rGet_has {n : Nat} {xs : List UInt8} (h : n ≤ xs.length) : rGet n (some xs) = xs.take n := by simp [rGet, h]
theorem rTake_not {n : Nat} {st : Option (List UInt8)} (h : ¬ rHas n st) : rTake n st = none := by
  cases st with
  | none => rfl
  | some xs => simp only [rTake, Option.bind_some, ite_eq_right_iff]; intro h'; exact (h ⟨xs, rfl, h'⟩).elim
theorem rGet_not {n : Nat} {st : Option (List UInt8)} (h : ¬ rHas n st) : rGet n st = [] := by
  cases st with
  | none => rfl
  | some xs => simp only [rGet, Option.map_some, Option.getD_some, ite_eq_right_iff]; intro h'; exact (h ⟨xs, rfl, h'⟩).elim
theorem take_not (p g n : Nat) (st : Option (List UInt8)) (w : World) (hi : IsIn w p g st) (hn : n < 2 ^ 62) (h : ¬ rHas n st) :
    Calls Tryz.prog 77 #[.pointer (some ⟨p, 0, none⟩), .int .i64 n] w fun e w' => e = .returned (.slice none 0 0) ∧ Upd [p] w w' ∧ IsIn w' p g none := by
  cases st with
  | none => exact take_none p g n w hi
  | some xs => exact take_few p g n xs w hi (Nat.lt_of_not_le fun h' => h ⟨xs, rfl, h'⟩) hn

theorem or_low (a c : Nat) (hc : c < 256) : a * 256 ||| c = a * 256 + c := by
  have := Nat.shiftLeft_add_eq_or_of_lt (a := a) (b := c) (i := 8) (by simpa using hc)
  rw [Nat.shiftLeft_eq] at this
  simpa using this.symm
theorem or_step (a c : Nat) (ha : a < 72057594037927936) (hc : c < 256) :
    bits .or .u64 (IntKind.u64.wrap ((a : Int) * 256)) (IntKind.u64.wrap (c : Int)) = ((a * 256 + c : Nat) : Int) := by
  rw [IntWalk.u64_in _ (by omega), IntWalk.u64_in _ (by omega)]
  rw [show ((a : Int) * 256) = ((a * 256 : Nat) : Int) by omega, u64_or_nat _ _ (by omega) (by omega), or_low _ _ hc]
/-- The number of bytes, the highest first. -/
def be (l : List UInt8) : Nat := l.foldl (fun a c => a * 256 + c.toNat) 0
theorem be_snoc (l : List UInt8) (c : UInt8) : be (l ++ [c]) = be l * 256 + c.toNat := by simp [be]
theorem be_lt (l : List UInt8) : be l < 256 ^ l.length := by
  have h : ∀ (l : List UInt8) (a : Nat), l.foldl (fun a c => a * 256 + c.toNat) a < (a + 1) * 256 ^ l.length := by
    intro l
    induction l with
    | nil => intro a; simp
    | cons c l ih =>
      intro a
      have := ih (a * 256 + c.toNat)
      have hc := c.toNat_lt
      rw [List.foldl_cons, List.length_cons, Nat.pow_succ]
      refine Nat.lt_of_lt_of_le this ?_
      rw [Nat.mul_comm (256 ^ l.length) 256, ← Nat.mul_assoc]
      exact Nat.mul_le_mul_right _ (by omega)
  have := h l 0
  unfold be
  omega

set_option maxHeartbeats 400000 in
theorem next_not (p g n : Nat) (st : Option (List UInt8)) (w : World) (hi : IsIn w p g st) (hn : n ≤ 8) (h : ¬ rHas n st) :
    Calls Tryz.prog 55 #[.pointer (some ⟨p, 0, none⟩), .int .i64 n] w fun e w' => e = .returned (.int .u64 0) ∧ Upd [p] w w' ∧ IsIn w' p g none := by
  have ht := take_not p g n st w hi (by omega) h
  clear hi h hn
  go_enter Tryz.func55, Tryz.ntmps55
  go_wp2_with (go_at_call 77; refine ht.mono ?_; rintro e w' ⟨rfl, hu, hin⟩; clear ht)
  refine wp_loop_rounds 1 ?_
  rw [rounds_succ]
  go_wp2
  go_ret
  exact ⟨rfl, hu, hin⟩

set_option maxHeartbeats 400000 in
theorem next_has (p g n : Nat) (xs : List UInt8) (w : World) (hi : IsIn w p g (some xs)) (hn : n ≤ 8) (h : n ≤ xs.length) :
    Calls Tryz.prog 55 #[.pointer (some ⟨p, 0, none⟩), .int .i64 n] w fun e w' => e = .returned (.int .u64 (be (xs.take n))) ∧ Upd [p] w w' ∧ IsIn w' p g (some (xs.drop n)) := by
  have ht := take_some p g n xs w hi h
  clear hi
  go_enter Tryz.func55, Tryz.ntmps55
  go_wp2_with (go_at_call 77; refine ht.mono ?_; rintro e w' ⟨v, rfl, hu, hin, off, cap, row, fz, rfl, hl, hc, hrow⟩; clear ht)
  have hx : ∀ k, k < n → w'.cell? ⟨g, off + k, none⟩ = some (.int .u8 ((xs.take n)[k]?.getD 0).toNat) := by
    intro k hk
    have := hrow.2 k (by simp; omega)
    rw [cell_of_heap hrow.1, this, List.getElem?_eq_getElem (by simp; omega)]
    rfl
  have HX := Lib.hid hx
  clear hx hrow hl
  go_loop [5, 12] (fun v i => ∃ k : Nat, k ≤ n ∧ i = .int .i64 k ∧ v = .int .u64 (be (xs.take k))) (fun _ i => n - (intOf i).toNat)
  case atStart => exact ⟨0, Nat.zero_le _, rfl, rfl⟩
  case round =>
    obtain ⟨k, hk, rfl, rfl⟩ := hrel
    by_cases hlt : k < n
    · have hc := HX.out k hlt
      have hlk : k < xs.length := by omega
      have HB := Lib.hid (be_lt (xs.take k))
      have HS := Lib.hid (be_snoc (xs.take k) xs[k])
      go_wp2
      go_round
      case rel =>
        refine ⟨k + 1, by omega, by go_num, ?_⟩
        have h1 := HB.out
        have h2 := HS.out
        rw [List.length_take, Nat.min_eq_left (by omega)] at h1
        have h3 : 256 ^ k ≤ 256 ^ 7 := Nat.pow_le_pow_right (by omega) (by omega)
        rw [or_step _ _ (by omega) xs[k].toNat_lt, ← List.take_append_getElem hlk, h2]
      case measure => simp [intOf]; omega
    · go_wp2
      go_ret
      obtain rfl : k = n := by omega
      exact ⟨rfl, hu, hin⟩

set_option maxHeartbeats 400000 in
theorem u8_not (p g : Nat) (st : Option (List UInt8)) (w : World) (hi : IsIn w p g st) (h : ¬ rHas 1 st) :
    Calls Tryz.prog 21 #[.pointer (some ⟨p, 0, none⟩)] w fun e w' => e = .returned (.int .u8 0) ∧ Upd [p] w w' ∧ IsIn w' p g none := by
  have ht := next_not p g 1 st w hi (by omega) h
  clear hi h
  go_enter Tryz.func21, Tryz.ntmps21
  go_wp2_with (go_at_call 55; refine ht.mono ?_; rintro e w' ⟨rfl, hu, hin⟩; clear ht)
  go_ret
  exact ⟨rfl, hu, hin⟩
set_option maxHeartbeats 400000 in
theorem u8_has (p g : Nat) (x : UInt8) (xs : List UInt8) (w : World) (hi : IsIn w p g (some (x :: xs))) :
    Calls Tryz.prog 21 #[.pointer (some ⟨p, 0, none⟩)] w fun e w' => e = .returned (.int .u8 x.toNat) ∧ Upd [p] w w' ∧ IsIn w' p g (some xs) := by
  have ht := next_has p g 1 (x :: xs) w hi (by omega) (by simp)
  clear hi
  simp [be] at ht
  have hx := x.toNat_lt
  go_enter Tryz.func21, Tryz.ntmps21
  go_wp2_with (go_at_call 55; refine ht.mono ?_; rintro e w' ⟨rfl, hu, hin⟩; clear ht)
  go_ret
  exact ⟨rfl, hu, hin⟩
set_option maxHeartbeats 400000 in
theorem fixed_not (p g n : Nat) (st : Option (List UInt8)) (w : World) (hi : IsIn w p g st) (hn : n < 2 ^ 62) (h : ¬ rHas n st) :
    Calls Tryz.prog 57 #[.pointer (some ⟨p, 0, none⟩), .int .i64 n] w fun e w' => e = .returned (.slice none 0 0) ∧ Upd [p] w w' ∧ IsIn w' p g none := by
  have ht := take_not p g n st w hi hn h
  clear hi h hn
  go_enter Tryz.func57, Tryz.ntmps57
  go_wp2_with (go_at_call 77; refine ht.mono ?_; rintro e w' ⟨rfl, hu, hin⟩; clear ht)
  go_ret
  exact ⟨rfl, hu, hin⟩
set_option maxHeartbeats 400000 in
theorem fixed_has (p g n : Nat) (xs : List UInt8) (w : World) (hi : IsIn w p g (some xs)) (hn : n ≤ xs.length) :
    Calls Tryz.prog 57 #[.pointer (some ⟨p, 0, none⟩), .int .i64 n] w fun e w' => ∃ v, e = .returned v ∧ Upd [p] w w' ∧ IsIn w' p g (some (xs.drop n)) ∧ SlB w' g v (xs.take n) := by
  have ht := take_some p g n xs w hi hn
  clear hi hn
  go_enter Tryz.func57, Tryz.ntmps57
  go_wp2_with (go_at_call 77; refine ht.mono ?_; rintro e w' ⟨v, rfl, hu, hin, hs⟩; clear ht)
  go_ret
  exact ⟨_, rfl, hu, hin, hs⟩
end Go.Proofs.YtdbceafejbnebaaGreatDoor
/-! The reader's lists and its end; the reader's making. -/
namespace Go.Proofs.YtdbceafejbnebaaGreatDoor
open Go Go.RowKit

set_option maxHeartbeats 400000 in
theorem many_not (p g most : Nat) (st : Option (List UInt8)) (w : World) (hi : IsIn w p g st) (h : ¬ rHas 2 st) :
    Calls Tryz.prog 56 #[.pointer (some ⟨p, 0, none⟩), .int .i64 most] w fun e w' => e = .returned (.int .i64 (-1)) ∧ Upd [p] w w' ∧ IsIn w' p g none := by
  have ht := next_not p g 2 st w hi (by omega) h
  clear hi h
  have d1 : decide ((most : Int) < 0) = false := by simp
  go_enter Tryz.func56, Tryz.ntmps56
  go_wp2_with (go_at_call 55; refine ht.mono ?_; rintro e w' ⟨rfl, hu, hin⟩; clear ht; obtain ⟨hg, a, l, c, hp⟩ := id hin; have c1 := cell_of_heap hp 1; simp at c1; clear hp)
  go_ret
  exact ⟨rfl, hu, hin⟩
set_option maxHeartbeats 400000 in
theorem many_over (p g most : Nat) (xs : List UInt8) (w : World) (hi : IsIn w p g (some xs)) (h : 2 ≤ xs.length) (hm : most < be (xs.take 2)) :
    Calls Tryz.prog 56 #[.pointer (some ⟨p, 0, none⟩), .int .i64 most] w fun e w' => e = .returned (.int .i64 (-1)) ∧ Upd [p] w w' ∧ IsIn w' p g none := by
  have ht := next_has p g 2 xs w hi (by omega) h
  have hb := be_lt (xs.take 2)
  rw [List.length_take, Nat.min_eq_left h] at hb
  generalize be (xs.take 2) = m at ht hb hm
  clear hi h
  have hm' : (most : Int) < (m : Int) := by omega
  have W : IntKind.i64.wrap (m : Int) = (m : Int) := IntWalk.i64_in _ (by omega)
  clear hm hb
  go_enter Tryz.func56, Tryz.ntmps56
  go_wp2_with (go_at_call 55; refine ht.mono ?_; rintro e w' ⟨rfl, hu, hin⟩; clear ht; obtain ⟨hg, v, hp, hs⟩ := hin; have c1 := cell_of_heap hp 1; simp at c1; have f1 := free_of_heap hp 1; have H := Lib.hid hp; have HS := Lib.hid hs; clear hp hs)
  go_ret
  obtain ⟨off, cap, row, fz, rfl, _⟩ := HS.out
  have h1 := heap_setCell_same H.out 1 (.bool true)
  exact ⟨rfl, hu.setCell (.inr (by simp)) _, hg, _, _, _, by simpa using h1⟩
set_option maxHeartbeats 400000 in
theorem many_has (p g most : Nat) (xs : List UInt8) (w : World) (hi : IsIn w p g (some xs)) (h : 2 ≤ xs.length) (hm : be (xs.take 2) ≤ most) :
    Calls Tryz.prog 56 #[.pointer (some ⟨p, 0, none⟩), .int .i64 most] w fun e w' => e = .returned (.int .i64 (be (xs.take 2))) ∧ Upd [p] w w' ∧ IsIn w' p g (some (xs.drop 2)) := by
  have ht := next_has p g 2 xs w hi (by omega) h
  have hb := be_lt (xs.take 2)
  rw [List.length_take, Nat.min_eq_left h] at hb
  generalize be (xs.take 2) = m at ht hb hm ⊢
  clear hi h
  have hm' : (m : Int) ≤ (most : Int) := by omega
  have W : IntKind.i64.wrap (m : Int) = (m : Int) := IntWalk.i64_in _ (by omega)
  clear hm hb
  go_enter Tryz.func56, Tryz.ntmps56
  go_wp2_with (go_at_call 55; refine ht.mono ?_; rintro e w' ⟨rfl, hu, hin⟩; clear ht; obtain ⟨hg, v, hp, hs⟩ := id hin; have c1 := cell_of_heap hp 1; simp at c1; clear hp hs)
  go_ret
  exact ⟨rfl, hu, hin⟩

set_option maxHeartbeats 400000 in
theorem end_none (p g : Nat) (w : World) (hi : IsIn w p g none) :
    Calls Tryz.prog 28 #[.pointer (some ⟨p, 0, none⟩)] w fun e w' => e = .returned (.int .i64 9) ∧ w = w' := by
  obtain ⟨hg, a, l, c, hp⟩ := hi
  have c0 := cell_of_heap hp 0
  have c1 := cell_of_heap hp 1
  simp at c0 c1
  clear hp
  go_enter Tryz.func28, Tryz.ntmps28
  go_wp2
  go_ret
  exact ⟨rfl, rfl⟩
set_option maxHeartbeats 400000 in
theorem end_some (p g : Nat) (xs : List UInt8) (w : World) (hi : IsIn w p g (some xs)) :
    Calls Tryz.prog 28 #[.pointer (some ⟨p, 0, none⟩)] w fun e w' => e = .returned (.int .i64 (if xs = [] then 0 else 9)) ∧ w = w' := by
  obtain ⟨hg, v, hp, off, cap, row, fz, rfl, hl, hc, hrow⟩ := hi
  have c0 := cell_of_heap hp 0
  have c1 := cell_of_heap hp 1
  simp at c0 c1
  clear hp hrow
  by_cases hx : xs = []
  · subst hx
    go_enter Tryz.func28, Tryz.ntmps28
    go_wp2
    go_ret
    exact ⟨rfl, rfl⟩
  · have hpos : (0 : Int) < (xs.length : Int) := by have := List.length_pos_iff.2 hx; omega
    rw [if_neg hx]
    clear hx
    go_enter Tryz.func28, Tryz.ntmps28
    go_wp2
    go_ret
    exact ⟨rfl, rfl⟩

/-- A byte's value. -/
def byteV (c : UInt8) : Value := .int .u8 (c.toNat : Int)
theorem byteV_one (xs : List UInt8) : ∀ u ∈ xs.map byteV, u.oneCell' = true := by
  intro u hu
  obtain ⟨c, _, rfl⟩ := List.mem_map.1 hu
  rfl
theorem Tryz.info5 : (Tryz.prog.info? 5).map (fun i => (i.zero, i.size, i.bytes)) = some (some (.int .u8 0), 1, 1) := by kernel_rfl
/-- The cells of a slice of bytes. -/
theorem SlB.news {w : World} {g off cap : Nat} {xs : List UInt8} (h : SlB w g (.slice (some ⟨g, off, none⟩) xs.length cap) xs) :
    ∀ j u, (xs.map byteV)[j]? = some u → w.cell? ⟨g, off + j, none⟩ = some u := by
  obtain ⟨off', cap', row, fz, hv, hl, hc, hg, hr⟩ := h
  simp at hv
  obtain ⟨rfl, rfl⟩ := hv
  intro j u hu
  rw [List.getElem?_map] at hu
  obtain ⟨c, hc, rfl⟩ := Option.map_eq_some_iff.1 hu
  obtain ⟨hj, rfl⟩ := List.getElem?_eq_some_iff.1 hc
  rw [cell_of_heap hg, hr j hj]
  rfl
theorem SlB.of_owns {w : World} {base n : Nat} {v : Value} {xs : List UInt8} (h : w.ownsRow base 5 1 v n (xs.map byteV)) (hv : v ≠ .slice none 0 0) :
    ∃ g, base ≤ g ∧ g < w.heap.size ∧ SlB w g v xs := by
  obtain ⟨h1, h2 | ⟨g, cap, cur, rfl, hb, hg, hn, hm, hs, ht⟩⟩ := h
  · exact (hv h2.1).elim
  · have hl : n = xs.length := by simpa using h1.symm
    subst hl
    refine ⟨g, hb, lt_of_heap hg, 0, cap, cur, (0, 0), rfl, hn, hm, hg, fun i hi => ?_⟩
    have : (cur.toList.take (xs.length * 1))[i]? = some (byteV xs[i]) := by rw [ht]; simp [hi]
    rw [List.getElem?_take, if_pos (by omega)] at this
    simpa [byteV] using this

theorem owns_slice {w : World} {base n size : Nat} {e : TypeId} {v : Value} {xs : List Value} (h : w.ownsRow base e size v n xs) (hv : v ≠ .slice none 0 0) :
    ∃ g cap, v = .slice (some ⟨g, 0, none⟩) n cap := by
  obtain ⟨h1, h2 | ⟨g, cap, cur, rfl, hb, hg, hn, hm, hs, ht⟩⟩ := h
  · exact (hv h2.1).elim
  · exact ⟨g, cap, rfl⟩
set_option maxHeartbeats 400000 in
theorem newIn_any (gx off cap : Nat) (xs : List UInt8) (w : World) (hx : SlB w gx (.slice (some ⟨gx, off, none⟩) xs.length cap) xs) (hb : xs.length ≤ 100000000000) :
    Calls Tryz.prog 20 #[.slice (some ⟨gx, off, none⟩) xs.length cap] w fun e w' => ∃ p g, e = .returned (.pointer (some ⟨p, 0, none⟩)) ∧ w.heap.size ≤ p ∧ w.heap.size ≤ g ∧ Upd [] w w' ∧ IsIn w' p g (some xs) := by
  obtain ⟨i0, hi, hz0, hz1, hz2⟩ := info_parts Tryz.info5
  have HN := Lib.hid hx.news
  have HB := Lib.hid hb
  clear hx hb
  go_enter Tryz.func20, Tryz.ntmps20
  go_wp2_with (at_builtin; refine wpList_append_own _ rfl _ _ 22 rfl w.heap.size 5 i0 (.int .u8 0) 1 1 Tryz.underlying22 hi hz0 hz1 hz2 rfl (by decide) _ _ _ rfl (World.ownsRow_made w #[] 0 (Nat.le_refl _) (Nat.zero_le _) (by simp)) ⟨gx, off, none⟩ xs.length cap (xs.map byteV) rfl ?qc1 ?qc2 ?qc3 ?qc4 ?qc5 ?qc6 ?_)
  case qc1 => simp
  case qc2 =>
    intro j u hj
    rw [Addr.add_lit]
    exact Lib.cell?_alloc_some _ (HN.out j u hj)
  case qc3 => exact byteV_one xs
  case qc4 => have := HB.out; unfold maxLen; omega
  case qc5 => have := HB.out; omega
  case qc6 => simp
  intro v' w1 hown hgrow hnil
  have hv : v' ≠ .slice none 0 0 := hnil
  have HO := Lib.hid hown
  have HG := Lib.hid hgrow
  obtain ⟨g', cap', rfl⟩ := owns_slice hown hv
  clear hown hgrow hnil hv
  go_wp2
  go_ret
  obtain ⟨g, hg1, hg2, hS⟩ := SlB.of_owns HO.out (by simp)
  have hb1 : Below w.heap.size w w1 := ((Below.refl _ w).alloc (Nat.le_refl _) _).grown HG.out (by simp) (by intro k hk; simp [Value.ownBlock] at hk; omega)
  have hu : Upd [] w (w1.alloc (.cells #[.slice (some ⟨g', 0, none⟩) xs.length cap', .bool false] 115)) := ((Upd.refl _ _).below hb1).alloc _
  refine ⟨w1.heap.size, g, rfl, hb1.size, hg1, hu, by omega, _, heap_alloc_new _ _, hS.upd ((Upd.refl [] w1).alloc _) (by simp)⟩
end Go.Proofs.YtdbceafejbnebaaGreatDoor
