/- Keys: their values, and how one is taken. Lists that are taken. -/
import Derived.Test.YtdbceafejbnebaaGreatDoorM01
import Derived.Deep.RegionWith
import Derived.Deep.RegionLaw
import Derived.Deep.MidRow
import Derived.Deep.WholeRow
import Derived.Laws.CopyOwn
import Derived.Great.BuildSlice
import Derived.Outline
/-! Keys: their values, and how one is taken. -/
namespace Go.Proofs.YtdbceafejbnebaaGreatDoor
open Go Go.RowKit

/-- A key: 32 bytes. -/
abbrev K := { l : List UInt8 // l.length = 32 }
def keyCells (k : K) : List Value := k.1.map byteV
def keyV (k : K) : Value := .agg (keyCells k).toArray
def zeroK : K := ⟨List.replicate 32 0, by simp⟩
instance : Inhabited K := ⟨zeroK⟩


theorem alloc_heap (w : World) (o : Obj) : (w.alloc o).heap[w.heap.size]? = some o := heap_alloc_new w o
theorem IsIn.upd {S : List Nat} {w w' : World} {p g : Nat} {st : Option (List UInt8)} (h : IsIn w p g st) (hu : Upd S w w') (hp : p ∉ S) (hg : g ∉ S) : IsIn w' p g st := by
  cases st with
  | none => obtain ⟨h0, a, n, c, h1⟩ := h; exact ⟨h0, a, n, c, hu.heap h1 hp⟩
  | some xs => obtain ⟨h0, v, h1, h2⟩ := h; exact ⟨h0, v, hu.heap h1 hp, h2.upd hu hg⟩
theorem IsIn.lt {w : World} {p g : Nat} {st : Option (List UInt8)} (h : IsIn w p g st) : p < w.heap.size := by
  cases st with
  | none => obtain ⟨h0, a, n, c, h1⟩ := h; exact lt_of_heap h1
  | some xs => obtain ⟨h0, v, h1, h2⟩ := h; exact lt_of_heap h1

theorem Tryz.size31 : (Tryz.prog.info? 31).map (·.size) = some 32 := by kernel_rfl
theorem Tryz.size5 : (Tryz.prog.info? 5).map (·.size) = some 1 := by kernel_rfl
theorem oneCells (xs : List UInt8) : (xs.map byteV).toArray.all (·.oneCell') = true := all_oneCell_toArray (byteV_one xs)

def zc : List Value := zeroK.1.map byteV
theorem zc_len : zc.length = 32 := rfl
theorem zc_one : ∀ u ∈ zc, u.oneCell' = true := byteV_one zeroK.1
theorem zc_all : zc.toArray.all (·.oneCell') = true := oneCells zeroK.1
theorem keyCells_len (k : K) : (keyCells k).length = 32 := by simp [keyCells, k.2]
theorem keyCells_one (k : K) : ∀ u ∈ keyCells k, u.oneCell' = true := byteV_one k.1
theorem keyCells_all (k : K) : (keyCells k).toArray.all (·.oneCell') = true := oneCells k.1
theorem size31 {cs : List Value} (h : cs.length = 32) : (Tryz.prog.info? 31).map (·.size) = some cs.toArray.size := by rw [Tryz.size31]; simp [h]

theorem Upd.below' {S : List Nat} {a b c : World} (h : Upd S a b) (hb : Below a.heap.size b c) : Upd S a c :=
  ⟨hb.os.trans h.os, hb.tape.trans h.tape, hb.output.trans h.output, Nat.le_trans h.size hb.size, fun k hk hS => (hb.block k hk).trans (h.block k hk hS)⟩
theorem SlB.congr {w w' : World} {g : Nat} {v : Value} {xs : List UInt8} (h : SlB w g v xs) (hg : w'.heap[g]? = w.heap[g]?) : SlB w' g v xs := by
  obtain ⟨off, cap, row, fz, h1, h2, h3, h4, h5⟩ := h
  exact ⟨off, cap, row, fz, h1, h2, h3, hg.trans h4, h5⟩
theorem IsIn.congr {w w' : World} {p g : Nat} {st : Option (List UInt8)} (h : IsIn w p g st) (hp : w'.heap[p]? = w.heap[p]?) (hg : st ≠ none → w'.heap[g]? = w.heap[g]?) : IsIn w' p g st := by
  cases st with
  | none => obtain ⟨h0, a, n, c, h1⟩ := h; exact ⟨h0, a, n, c, hp.trans h1⟩
  | some xs => obtain ⟨h0, v, h1, h2⟩ := h; exact ⟨h0, v, hp.trans h1, h2.congr (hg (by simp))⟩
theorem SlB.lt {w : World} {g : Nat} {v : Value} {xs : List UInt8} (h : SlB w g v xs) : g < w.heap.size := by
  obtain ⟨off, cap, row, fz, h1, h2, h3, h4, h5⟩ := h
  exact lt_of_heap h4
theorem IsIn.glt {w : World} {p g : Nat} {xs : List UInt8} (h : IsIn w p g (some xs)) : g < w.heap.size := by
  obtain ⟨h0, v, h1, h2⟩ := h; exact h2.lt
set_option maxHeartbeats 400000 in
theorem takeKey_not (p g : Nat) (st : Option (List UInt8)) (w : World) (hi : IsIn w p g st) (h : ¬ rHas 32 st) :
    Calls Tryz.prog 23 #[.pointer (some ⟨p, 0, none⟩)] w fun e w' => e = .returned (.agg zc.toArray) ∧ Upd [p] w w' ∧ IsIn w' p g none := by
  have hlt := hi.lt
  go_enter Tryz.func23, Tryz.ntmps23
  go_wp2
  have hB := alloc_heap w (.cells zc.toArray 31)
  have hU := (Upd.refl [p] w).alloc (.cells zc.toArray 31)
  have hI := hi.upd ((Upd.refl [] w).alloc (.cells zc.toArray 31)) (by simp) (by simp)
  change Code.wp _ _ _ _ (w.alloc (.cells zc.toArray 31))
  generalize w.alloc (.cells zc.toArray 31) = w1 at hB hU hI ⊢
  have HB := Lib.hid hB
  have ht := fixed_not p g 32 st w1.drew (hI.upd ((Upd.refl [] w1).drew) (by simp) (by simp)) (by omega) h
  clear hB hi h hI
  go_region_law (first | (go_simp; go_at_call 57; refine ht.mono ?_; clear ht; rintro e w' ⟨rfl, hu, hin⟩) | (refine step_copy_splice rfl _ _ _ _ rfl 5 Tryz.underlying22 Tryz.size5 _ _ _ _ _ _ rfl rfl w.heap.size 0 zc 31 (hu.heap HB.out (by simp; omega)) [] rfl (by simp) (by simp) (by simp) w.heap.size _ (Below.refl _ _) (Nat.le_refl _) ?_; intro w3 hw3 hbel))
  rw [show splice zc 0 [] = zc by simp [splice]] at hw3
  go_wp2_with (first | (refine wpList_load_row rfl 31 _ rfl w.heap.size rfl 31 zc.toArray (0, 0) _ hw3.out Tryz.underlying31 rfl (size31 zc_len) ?_) | (refine wpList_store_row rfl 31 _ _ rfl w.heap.size zc.toArray rfl rfl 31 zc.toArray hw3.out (size31 zc_len) rfl zc_all ?_))
  rw [setRow_self _ _ _ _ _ hw3.out]
  refine bodyPost_ret (results_cell_row rfl _ _ _ 31 zc.toArray (0, 0) _ rfl hw3.out Tryz.underlying31 rfl (size31 zc_len)) rfl ?_
  exact ⟨rfl, (hU.trans ((Upd.refl [p] w1).drew.trans hu)).below' hbel, hin.congr (hbel.block p hlt) (by simp)⟩

set_option maxHeartbeats 400000 in
theorem takeKey_has (p g : Nat) (k : K) (ys : List UInt8) (w : World) (hi : IsIn w p g (some (k.1 ++ ys))) :
    Calls Tryz.prog 23 #[.pointer (some ⟨p, 0, none⟩)] w fun e w' => e = .returned (.agg (keyCells k).toArray) ∧ Upd [p] w w' ∧ IsIn w' p g (some ys) := by
  have hlt := hi.lt
  have hglt := hi.glt
  go_enter Tryz.func23, Tryz.ntmps23
  go_wp2
  have hB := alloc_heap w (.cells zc.toArray 31)
  have hU := (Upd.refl [p] w).alloc (.cells zc.toArray 31)
  have hI := hi.upd ((Upd.refl [] w).alloc (.cells zc.toArray 31)) (by simp) (by simp)
  change Code.wp _ _ _ _ (w.alloc (.cells zc.toArray 31))
  generalize w.alloc (.cells zc.toArray 31) = w1 at hB hU hI ⊢
  have HB := Lib.hid hB
  have hk := k.2
  have ht := fixed_has p g 32 (k.1 ++ ys) w1.drew (hI.upd ((Upd.refl [] w1).drew) (by simp) (by simp)) (by simp; omega)
  rw [show (k.1 ++ ys).drop 32 = ys from List.drop_left' hk, show (k.1 ++ ys).take 32 = k.1 from List.take_left' hk] at ht
  clear hB hi hI hk
  go_region_law (first | (go_simp; go_at_call 57; refine ht.mono ?_; clear ht; rintro e w' ⟨v, rfl, hu, hin, off, cap, row, fz, rfl, hl, hc, hrow⟩; have HR := Lib.hid hrow; clear hrow) | (refine step_copy_splice rfl _ _ _ _ rfl 5 Tryz.underlying22 Tryz.size5 _ _ _ _ _ _ rfl rfl w.heap.size 0 zc 31 (hu.heap HB.out (by simp; omega)) (keyCells k) (by rw [keyCells_len, k.2]; rfl) (fun _ => ⟨rfl, ⟨g, off, none⟩, rfl, fun j u hj => by rw [Addr.add_lit]; exact (SlB.news ⟨off, cap, row, fz, rfl, hl, hc, HR.out.1, HR.out.2⟩) j u hj⟩) (by rw [keyCells_len]; simp [zc_len]) (keyCells_one k) w.heap.size _ (Below.refl _ _) (Nat.le_refl _) ?_; intro w3 hw3 hbel))
  rw [show splice zc 0 (keyCells k) = keyCells k by simp [splice, keyCells_len, zc_len]] at hw3
  go_wp2_with (first | (refine wpList_load_row rfl 31 _ rfl w.heap.size rfl 31 (keyCells k).toArray (0, 0) _ hw3.out Tryz.underlying31 rfl (size31 (keyCells_len k)) ?_) | (refine wpList_store_row rfl 31 _ _ rfl w.heap.size (keyCells k).toArray rfl rfl 31 (keyCells k).toArray hw3.out (size31 (keyCells_len k)) rfl (keyCells_all k) ?_))
  rw [setRow_self _ _ _ _ _ hw3.out]
  refine bodyPost_ret (results_cell_row rfl _ _ _ 31 (keyCells k).toArray (0, 0) _ rfl hw3.out Tryz.underlying31 rfl (size31 (keyCells_len k))) rfl ?_
  exact ⟨rfl, (hU.trans ((Upd.refl [p] w1).drew.trans hu)).below' hbel, hin.congr (hbel.block p hlt) (fun _ => hbel.block g hglt)⟩
theorem fold_list (l : List Value) (off : Nat) : ∀ (k : Nat) (base : Array Value), off + k + l.length ≤ base.size →
    (l.zipIdx k).foldl (fun cs x => cs.setIfInBounds (off + x.2) x.1) base = (base.toList.take (off + k) ++ (l ++ base.toList.drop (off + k + l.length))).toArray := by
  induction l with
  | nil => intro k base h; simp
  | cons c l ih =>
    intro k base h
    simp only [List.length_cons] at h
    rw [List.zipIdx_cons, List.foldl_cons, ih (k + 1) _ (by simp; omega)]
    have hk : off + k < base.toList.length := by simp; omega
    congr 1
    simp only [Array.toList_setIfInBounds, List.cons_append, List.length_cons]
    rw [show off + (k + 1) = (off + k) + 1 by omega, List.take_succ_eq_append_getElem (by simp; omega), List.take_set_of_le (Nat.le_refl _), List.getElem_set_self, List.append_assoc, List.drop_set_of_lt (by omega)]
    simp only [List.cons_append, List.nil_append]
    rw [show off + k + 1 + l.length = off + k + (l.length + 1) by omega]
theorem fill_cons {place : Nat → Option (Nat × Nat)} {base : Array Value} {i off size : Nat} {cs : List Value} {rest : List (Nat × Value)} (hp : place i = some (off, size)) (hl : cs.length = size) (hb : off + size ≤ base.size) (v : Value) (hv : v.cells = cs.toArray) :
    Instr.fill place base ((i, v) :: rest) = Instr.fill place (base.toList.take off ++ (cs ++ base.toList.drop (off + size))).toArray rest := by
  have hf := fold_list cs off 0 base (by omega)
  simp only [Instr.fill, hp, hv, List.size_toArray, hl, ne_eq, not_true_eq_false, gt_iff_lt, decide_false, Bool.false_or]
  rw [if_neg (by simp; omega)]
  congr 1
  rw [← Array.foldl_toList, Array.toList_zipIdx]
  simpa [hl] using hf
/-- A row of one thing of n cells. -/
theorem fill_one {n : Nat} {f : Nat → Option (Nat × Nat)} {base : Array Value} {cs : List Value} (hf : f 0 = some (0, n)) (hl : cs.length = n) (hb : base.size = n) (v : Value) (hv : v.cells = cs.toArray) : Instr.fill f base [(0, v)] = some cs.toArray := by
  rw [fill_cons hf hl (by omega) v hv, Instr.fill]
  simp only [List.take_zero, List.nil_append, Nat.zero_add, Option.some.injEq]
  rw [List.drop_of_length_le (by simp; omega), List.append_nil]
/-- '[]T{x}', x of n cells. -/
theorem wpList_slice1 {P : Program} {ops : Array Oper} {rest : List Oper} {o : Oper} {a : Act} {w : World} {Q : Exit → Act → World → Prop} (hg : o.guard = none) (t e : TypeId) (x : Operand) (ho : o.op = .buildSlice t 1 #[(0, x)])
    (v : Value) (hx : a.eval x = v) (cs : List Value) (n : Nat) (hv : v.cells = cs.toArray) (hl : cs.length = n) (hn : Hid (0 < n ∧ n ≤ 1000)) (ie : TypeInfo) (z : Value)
    (hu : P.underlying t = some (.slice e)) (hie : P.info? e = some ie) (hz : ie.zero = some z) (hsz : ie.size = n)
    (h : wpList P ops Q rest (a.put o.dst (.slice (some ⟨w.heap.size, 0, none⟩) 1 1)) (w.alloc (.cells cs.toArray e))) : wpList P ops Q (o :: rest) a w := by
  obtain ⟨h1, h2⟩ := hn.out
  refine wpList_buildSlice hg t e 1 #[(0, x)] ho cs.toArray ie z hu hie hz (by omega) (by omega) ?_ h
  simp only [List.map_toArray, List.map_cons, List.map_nil, hx]
  exact fill_one (n := n) (by simp [hsz]) hl (by simp [hsz]) _ hv
end Go.Proofs.YtdbceafejbnebaaGreatDoor
/-! Lists that are taken. -/
namespace Go.Proofs.YtdbceafejbnebaaGreatDoor
open Go Go.RowKit

/-- n things, one behind the other. -/
def manyGo {α : Type} (item : List UInt8 → Option (α × List UInt8)) : Nat → List UInt8 → Option (List α × List UInt8)
  | 0, xs => some ([], xs)
  | n + 1, xs => (item xs).bind fun r => (manyGo item n r.2).map fun s => (r.1 :: s.1, s.2)
/-- A list of at most 'most' things. -/
def listGo {α : Type} (most : Nat) (item : List UInt8 → Option (α × List UInt8)) (st : Option (List UInt8)) : Option (List α × List UInt8) :=
  st.bind fun xs => if 2 ≤ xs.length ∧ be (xs.take 2) ≤ most then manyGo item (be (xs.take 2)) (xs.drop 2) else none
def keyGo (xs : List UInt8) : Option (K × List UInt8) := if h : 32 ≤ xs.length then some (⟨xs.take 32, by simp [h]⟩, xs.drop 32) else none

/-- How the things that were taken, and those to come, stand to the whole. -/
def Link {α : Type} (item : List UInt8 → Option (α × List UInt8)) (res : Option (List α × List UInt8)) (done : List α) (k : Nat) : Option (List UInt8) → Prop
  | some xs => res = (manyGo item k xs).map fun r => (done ++ r.1, r.2)
  | none => res = none

theorem Tryz.info31 : (Tryz.prog.info? 31).map (fun i => (i.zero, i.size, i.bytes)) = some (some (.agg zc.toArray), 32, 32) := by kernel_rfl

/-- What a taker of a key does. -/
theorem takeKey_any (p g : Nat) (st : Option (List UInt8)) (w : World) (hi : IsIn w p g st) :
    Calls Tryz.prog 23 #[.pointer (some ⟨p, 0, none⟩)] w fun e w' => ∃ cs : List Value, e = .returned (.agg cs.toArray) ∧ cs.length = 32 ∧ (∀ u ∈ cs, u.oneCell' = true) ∧ Upd [p] w w' ∧
      IsIn w' p g ((st.bind keyGo).map (·.2)) ∧ ∀ k ys, st.bind keyGo = some (k, ys) → cs = keyCells k := by
  by_cases h : rHas 32 st
  · obtain ⟨xs, rfl, hx⟩ := h
    have e : xs = (⟨xs.take 32, by simp [hx]⟩ : K).1 ++ xs.drop 32 := by simp
    have := takeKey_has p g ⟨xs.take 32, by simp [hx]⟩ (xs.drop 32) w (by rw [← e]; exact hi)
    refine this.mono fun e w' ⟨h1, h2, h3⟩ => ⟨_, h1, keyCells_len _, keyCells_one _, h2, ?_, ?_⟩
    · simpa [keyGo, hx] using h3
    · intro k ys hk
      simp [keyGo, hx] at hk
      rw [← hk.1]
  · refine (takeKey_not p g st w hi h).mono fun e w' ⟨h1, h2, h3⟩ => ⟨_, h1, zc_len, zc_one, h2, ?_, ?_⟩
    · cases st with
      | none => exact h3
      | some xs =>
        have : ¬ 32 ≤ xs.length := fun h' => h ⟨xs, rfl, h'⟩
        simpa [keyGo, this] using h3
    · intro k ys hk
      cases st with
      | none => cases hk
      | some xs =>
        have : ¬ 32 ≤ xs.length := fun h' => h ⟨xs, rfl, h'⟩
        simp [keyGo, this] at hk


/-- How many there are, in any case: it goes on with the bytes behind; or something is wrong. -/
theorem many_any (p g most : Nat) (st : Option (List UInt8)) (w : World) (hi : IsIn w p g st) :
    Calls Tryz.prog 56 #[.pointer (some ⟨p, 0, none⟩), .int .i64 most] w fun e w' => Upd [p] w w' ∧
      ((e = .returned (.int .i64 (-1)) ∧ IsIn w' p g none ∧ ∀ {α : Type} (item : List UInt8 → Option (α × List UInt8)), listGo most item st = none) ∨
       (∃ xs : List UInt8, e = .returned (.int .i64 (be (xs.take 2))) ∧ be (xs.take 2) ≤ most ∧ IsIn w' p g (some (xs.drop 2)) ∧ ∀ {α : Type} (item : List UInt8 → Option (α × List UInt8)), listGo most item st = manyGo item (be (xs.take 2)) (xs.drop 2))) := by
  by_cases h : rHas 2 st
  · obtain ⟨xs, rfl, hx⟩ := h
    by_cases hm : be (xs.take 2) ≤ most
    · refine (many_has p g most xs w hi hx hm).mono fun e w' ⟨h1, h2, h3⟩ => ⟨h2, .inr ⟨xs, h1, hm, h3, fun item => ?_⟩⟩
      simp [listGo, hx, hm]
    · refine (many_over p g most xs w hi hx (by omega)).mono fun e w' ⟨h1, h2, h3⟩ => ⟨h2, .inl ⟨h1, h3, fun item => ?_⟩⟩
      simp [listGo, hm]
  · refine (many_not p g most st w hi h).mono fun e w' ⟨h1, h2, h3⟩ => ⟨h2, .inl ⟨h1, h3, fun item => ?_⟩⟩
    cases st with
    | none => rfl
    | some xs =>
      have : ¬ 2 ≤ xs.length := fun h' => h ⟨xs, rfl, h'⟩
      simp [listGo, this]
theorem wrong_cell {w : World} {p g : Nat} {st : Option (List UInt8)} (hi : IsIn w p g st) : w.cell? ⟨p, 1, none⟩ = some (.bool st.isNone) := by
  cases st with
  | none => obtain ⟨hg, a, l, c, hp⟩ := hi; rw [cell_of_heap hp]; rfl
  | some xs => obtain ⟨hg, v, hp, hs⟩ := hi; rw [cell_of_heap hp]; rfl

theorem owns_upd {S : List Nat} {w w' : World} {base size n : Nat} {e : TypeId} {v : Value} {xs : List Value} (h : w.ownsRow base e size v n xs) (hu : Upd S w w') (hS : ∀ k ∈ S, k < base) : w'.ownsRow base e size v n xs := by
  refine ⟨h.1, ?_⟩
  rcases h.2 with h2 | ⟨g, cap, cur, hv, hb, hg, r⟩
  · exact .inl h2
  · exact .inr ⟨g, cap, cur, hv, hb, hu.heap hg (fun hk => by have := hS g hk; omega), r⟩
theorem upd_grown {S : List Nat} {a w w' : World} {row : Option Nat} (h : Upd S a w) (hg : w.grownBy w' row) (hr : ∀ k, row = some k → a.heap.size ≤ k) : Upd S a w' :=
  ⟨hg.os.trans h.os, hg.tape.trans h.tape, hg.output.trans h.output, Nat.le_trans h.size hg.size, fun k hk hS => (hg.block k (Nat.lt_of_lt_of_le hk h.size) (fun e => by have := hr k e.symm; omega)).trans (h.block k hk hS)⟩
theorem Link.next {α : Type} {item : List UInt8 → Option (α × List UInt8)} {res : Option (List α × List UInt8)} {done : List α} {k : Nat} {xs : List UInt8} {a : α} {ys : List UInt8}
    (h : Link item res done (k + 1) (some xs)) (hi : item xs = some (a, ys)) : Link item res (done ++ [a]) k (some ys) := by
  simp only [Link] at h ⊢
  rw [h, manyGo, hi]
  simp [Function.comp_def]
theorem Link.stop {α : Type} {item : List UInt8 → Option (α × List UInt8)} {res : Option (List α × List UInt8)} {done : List α} {k : Nat} {xs : List UInt8}
    (h : Link item res done (k + 1) (some xs)) (hi : item xs = none) (d : List α) (j : Nat) : Link item res d j none := by
  simp only [Link] at h ⊢
  rw [h, manyGo, hi]
  rfl
theorem eql65 (w : World) : (binOp .eql 65 (.func (.func 23) #[] #[]) .nilFunc).run Tryz.prog w = .ok (.bool false) w := by kernel_rfl
set_option maxHeartbeats 1000000 in
theorem takeKeys_any (p g most : Nat) (st : Option (List UInt8)) (w : World) (hi : IsIn w p g st) (hgw : g < w.heap.size) (hm : most < 1000) :
    Calls Tryz.prog 22 #[.pointer (some ⟨p, 0, none⟩), .int .i64 most, .func (.func 23) #[] #[]] w fun e w' => ∃ v, e = .returned v ∧ Upd [p] w w' ∧
      IsIn w' p g ((listGo most keyGo st).map (·.2)) ∧
      ∀ l ys, listGo most keyGo st = some (l, ys) → w'.ownsRow w.heap.size 31 32 v l.length (l.flatMap keyCells) := by
  have ht := many_any p g most st w hi
  have hpw := hi.lt
  have HM := Lib.hid hm
  clear hi hm
  have q65 := eql65
  go_enter Tryz.func22, Tryz.ntmps22
  go_wp2_with (go_at_call 56; refine ht.mono ?_; clear ht; rintro e w' ⟨hu, ⟨rfl, hin, hres⟩ | ⟨xs, rfl, hle, hin, hres⟩⟩)
  · have c1 := wrong_cell hin
    simp at c1
    have HR := Lib.hid (hres keyGo)
    clear hres
    refine wp_loop_rounds 1 ?_
    rw [rounds_succ]
    go_wp2
    go_ret
    refine ⟨_, rfl, hu, by rw [HR.out]; exact hin, fun l ys h => by rw [HR.out] at h; cases h⟩
  · have hp0 := hin.lt
    have HL : Hid (Link keyGo (listGo most keyGo st) [] (be (xs.take 2)) (some (xs.drop 2))) := by
      show listGo most keyGo st = _
      rw [hres keyGo]
      simp
    clear hres
    generalize be (xs.take 2) = m at hle HL ⊢
    generalize xs.drop 2 = ys at hin HL
    have HO : Hid (w'.ownsRow w.heap.size 31 32 (.slice none 0 0) 0 []) := World.ownsRow_nil _ _ _ _
    have HLe := Lib.hid hle
    clear hle
    obtain ⟨i0, hi, hz0, hz1, hz2⟩ := info_parts Tryz.info31
    have HN : Hid (0 < 32 ∧ 32 ≤ 1000) := by show _ ∧ _; omega
    go_loopw [7, 8] (fun v i wr => ∃ (k : Nat) (done : List K) (stc : Option (List UInt8)), i = .int .i64 k ∧ Hid (k + done.length ≤ most) ∧ Hid (stc ≠ none → wr.ownsRow w.heap.size 31 32 v done.length (done.flatMap keyCells)) ∧ IsIn wr p g stc ∧ Upd [p] w wr ∧ Hid (Link keyGo (listGo most keyGo st) done k stc)) (fun _ i _ => (intOf i).toNat)
    case atStart => exact ⟨m, [], some ys, rfl, HLe, Lib.hid (fun _ => HO.out), hin, hu, HL⟩
    case round =>
      obtain ⟨k, done, stc, rfl, hk, ho, hin2, hu2, hlk⟩ := hrel
      have c1 := wrong_cell hin2
      cases k with
      | zero =>
        cases stc with
        | none =>
          simp at c1
          go_wp2
          go_ret
          have hres : listGo most keyGo st = none := hlk.out
          exact ⟨_, rfl, hu2, by rw [hres]; exact hin2, fun l ys h => by rw [hres] at h; cases h⟩
        | some xs =>
          simp at c1
          go_wp2
          go_ret
          have hres : listGo most keyGo st = some (done, xs) := by have := hlk.out; simpa [Link, manyGo] using this
          refine ⟨_, rfl, hu2, by rw [hres]; exact hin2, fun l ys h => ?_⟩
          rw [hres] at h
          cases h
          exact ho.out (by simp)
      | succ k =>
        cases stc with
        | none =>
          simp at c1
          go_wp2
          go_ret
          have hres : listGo most keyGo st = none := hlk.out
          exact ⟨_, rfl, hu2, by rw [hres]; exact hin2, fun l ys h => by rw [hres] at h; cases h⟩
        | some xs =>
          simp at c1
          have ht := takeKey_any p g (some xs) _ hin2
          have hpos : (0 : Int) < ((k + 1 : Nat) : Int) := by omega
          have hkI : (k : Int) ≤ 1000 := by have := hk.out; have := HM.out; omega
          have HP : Hid (∀ j ∈ [p], j < w.heap.size) := fun j hj => by rw [List.mem_singleton.1 hj]; exact hpw
          go_wp2_with (first | (go_at_call 23; refine ht.mono ?_; clear ht; rintro e w3 ⟨cs, rfl, hcl, hc1, hu3, hin3, hit⟩; have HCL := Lib.hid hcl; have HC1 := Lib.hid hc1; have HIT := Lib.hid hit; clear hcl hc1 hit) | (refine wpList_slice1 rfl 28 31 _ rfl _ rfl cs 32 rfl HCL.out HN i0 (.agg zc.toArray) Tryz.underlying28 hi hz0 hz1 ?_) | (at_builtin; refine wpList_append_own _ rfl _ _ 28 rfl w.heap.size 31 i0 (.agg zc.toArray) 32 32 Tryz.underlying28 hi hz0 hz1 hz2 rfl (by decide) _ _ _ rfl ((owns_upd (ho.out (by simp)) hu3 HP.out).alloc _) ⟨w3.heap.size, 0, none⟩ 1 1 cs rfl ?c1 ?c2 ?c3 ?c4 ?c5 ?c6 ?_))
          case c1 => exact HCL.out
          case c2 =>
            intro j u hj
            rw [Addr.add_lit, cell_of_heap (alloc_heap _ _)]
            simpa using hj
          case c3 => exact HC1.out
          case c4 => have := hk.out; have := HM.out; unfold maxLen; omega
          case c5 => have := hk.out; have := HM.out; omega
          case c6 => have := hu2.size; have := hu3.size; simp; omega
          intro v' w4 hown hgrow hnil
          have HO4 := Lib.hid hown
          have HG4 := Lib.hid hgrow
          clear hown hgrow hnil
          go_wp2
          go_roundw
          case measure => simp [intOf]
          case rel =>
            have hu4 : Upd [p] w w4 := upd_grown ((hu2.trans hu3).alloc _) HG4.out (fun j hj => by
              have := (World.ownsRow.lt (owns_upd (ho.out (by simp)) hu3 HP.out)) j hj
              exact this.1)
            have hin4 : IsIn w4 p g ((some xs).bind keyGo |>.map (·.2)) := by
              have hsz : w.heap.size ≤ w3.heap.size := (hu2.trans hu3).size
              have hrow := fun j hj => (World.ownsRow.lt (owns_upd (ho.out (by simp)) hu3 HP.out)) j hj
              have hold : ∀ j, j < w.heap.size → w4.heap[j]? = w3.heap[j]? := fun j hj =>
                (HG4.out.block j (by simp; omega) (fun e => by have := hrow j e.symm; omega)).trans (Below.heap_alloc _ _ _ (by omega))
              exact hin3.congr (hold p hpw) (fun _ => hold g hgw)
            cases hi : keyGo xs with
            | none =>
              exact ⟨k, done, none, rfl, Lib.hid (by have := hk.out; omega), Lib.hid (fun h => (h rfl).elim), by simpa [hi] using hin4, hu4, Lib.hid (Link.stop hlk.out hi _ _)⟩
            | some r =>
              obtain ⟨a, zs⟩ := r
              have hcs : cs = keyCells a := HIT.out a zs (by simp [hi])
              refine ⟨k, done ++ [a], some zs, rfl, Lib.hid (by have := hk.out; simp; omega), Lib.hid (fun _ => ?_), by simpa [hi] using hin4, hu4, Lib.hid (Link.next hlk.out hi)⟩
              have := HO4.out
              rw [hcs] at this
              simpa using this
end Go.Proofs.YtdbceafejbnebaaGreatDoor
