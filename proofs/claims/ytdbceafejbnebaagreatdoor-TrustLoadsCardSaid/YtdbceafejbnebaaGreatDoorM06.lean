/- Books: Learn. Books: New, no book. -/
import Derived.Test.YtdbceafejbnebaaGreatDoorM05
import Derived.Deep.CutRange
import Derived.Deep.RegionHeld
/-! Books: Learn. -/
namespace Go.Proofs.YtdbceafejbnebaaGreatDoor
open Go Go.RowKit
theorem wpList_build1 {P : Program} {ops : Array Oper} {rest : List Oper} {o : Oper} {a : Act} {w : World} {Q : Exit → Act → World → Prop} (hg : o.guard = none) (t : TypeId) (i : Nat) (x : Operand) (ho : o.op = .build t #[(i, x)])
    (vx v : Value) (hx : a.eval x = vx) (hrun : (Instr.build t #[(i, vx)]).run P w = .ok v w)
    (h : wpList P ops Q rest (a.put o.dst v) w) : wpList P ops Q (o :: rest) a w :=
  wpList_buildRun hg t _ ho v (by simp only [List.map_toArray, List.map_cons, List.map_nil, hx]; exact hrun) h
def newCon : Con := ⟨[zeroK, zeroK, zeroK, zeroK], [false, false, false, false], 1, rfl, rfl⟩
/-- The load of a key in a region that draws its order and only reads: behind a guard too. -/
theorem quiet_load_key {o : Oper} {a : Act} {w : World} {KK : Act → Prop} (x : Operand) (ho : o.op = .load 31 x)
    (g off : Nat) (v : K) (hx : a.eval x = .pointer (some ⟨g, off, none⟩)) (hr : w.rangeAt g off (keyCells v)) (h : KK (a.put o.dst (.agg (keyCells v).toArray))) :
    o.quiet Tryz.prog a (fun w' => ∃ n, w' = w.drewN n) KK := by
  refine ⟨.agg (keyCells v).toArray, ?_, h⟩
  rintro w' ⟨n, rfl⟩
  have hrun := run_loadAt_mid (P := Tryz.prog) (w.drewN n) g off 31 (keyCells v) _ (World.rangeAt_drewN hr n) Tryz.underlying31 rfl (by rw [Tryz.size31, keyCells_len])
  unfold Oper.quietAt execOp
  simp only [ho, hx, Sem.run_bind, hrun, Result.andThen_ok, Sem.run_pure]
  exact ⟨rfl, rfl⟩
theorem ConAt.there {w : World} {p : Nat} {c : Con} (h : ConAt w p c) (d : Nat) (hd : d < 4) : w.there p (d * 32) 32 := by
  intro j hj
  refine ⟨?_, h.free _⟩
  rw [cell_of_heap h]
  simp only [List.getElem?_toArray]
  rw [List.getElem?_eq_getElem (by rw [conCells_len]; omega)]
  rfl
theorem setCells_eq {w : World} {g : Nat} {cur : Array Value} {t : TypeId} (o : Nat) (vs : List Value) (hg : w.heap[g]? = some (.cells cur t (0, 0))) (hl : o + vs.length ≤ cur.size) (h1 : ∀ v ∈ vs, v.oneCell' = true) :
    w.setCells g o vs = w.setRow g (cur.toList.take o ++ vs ++ cur.toList.drop (o + vs.length)).toArray := by
  have a := run_storeCells_at (P := Tryz.prog) g o t vs 0 cur w hg (by omega) h1
  have b := run_storeCells_cells (P := Tryz.prog) g o vs 0 w
    (fun j hj => by rw [Nat.add_zero, cell_of_heap hg, Array.getElem?_eq_getElem (by omega)]; rfl) (fun j hj => free_of_heap hg _) h1
  rw [a] at b
  simpa using b.symm
def Con.setKey (c : Con) (d : Nat) (k : K) : Con := { c with ks := c.ks.set d k, hk := by rw [List.length_set]; exact c.hk }
def Con.setHas (c : Con) (d : Nat) (v : Bool) : Con := { c with hs := c.hs.set d v, hh := by rw [List.length_set]; exact c.hh }
def Con.setSt (c : Con) (s : UInt8) : Con := { c with st := s }
theorem ConAt.setKey {w : World} {p : Nat} {c : Con} (h : ConAt w p c) (d : Nat) (hd : d < 4) (k : K) : ConAt (w.setCells p (d * 32) (keyCells k)) p (c.setKey d k) ∧ Upd [p] w (w.setCells p (d * 32) (keyCells k)) := by
  have e := setCells_eq (d * 32) (keyCells k) h (by rw [List.size_toArray, conCells_len, keyCells_len]; omega) (keyCells_one k)
  rw [e]
  refine ⟨?_, upd_setRow w p _⟩
  have := setRow_heap w p _ (List.take (d * 32) (conCells c).toArray.toList ++ keyCells k ++ List.drop (d * 32 + (keyCells k).length) (conCells c).toArray.toList).toArray 82 (0, 0) h
  unfold ConAt
  rw [this, keyCells_len]
  unfold conCells
  rw [List.toList_toArray, flat_set c.ks k _ d (by rw [c.hk]; exact hd)]
  rfl
theorem ConAt.setHas {w : World} {p : Nat} {c : Con} (h : ConAt w p c) (d : Nat) (hd : d < 4) (v : Bool) : ConAt (w.setCell ⟨p, 128 + d, none⟩ (.bool v)) p (c.setHas d v) ∧ Upd [p] w (w.setCell ⟨p, 128 + d, none⟩ (.bool v)) := by
  refine ⟨?_, (Upd.refl [p] w).setCell (.inr (by simp)) _⟩
  unfold ConAt
  rw [heap_setCell_same h]
  congr 2
  apply Array.ext'
  rw [Array.toList_setIfInBounds, List.toList_toArray]
  unfold conCells Con.setHas
  rw [List.set_append_right _ _ (by rw [flat_len, c.hk]; omega), flat_len, c.hk, List.set_append_left _ _ (by rw [List.length_map, c.hh]; omega), show 128 + d - 4 * 32 = d by omega, List.map_set]
theorem ConAt.setSt {w : World} {p : Nat} {c : Con} (h : ConAt w p c) (s : UInt8) : ConAt (w.setCell ⟨p, 132, none⟩ (byteV s)) p (c.setSt s) ∧ Upd [p] w (w.setCell ⟨p, 132, none⟩ (byteV s)) := by
  refine ⟨?_, (Upd.refl [p] w).setCell (.inr (by simp)) _⟩
  unfold ConAt
  rw [heap_setCell_same h]
  congr 2
  apply Array.ext'
  rw [Array.toList_setIfInBounds, List.toList_toArray]
  unfold conCells Con.setSt
  rw [List.set_append_right _ _ (by rw [flat_len, c.hk]; omega), flat_len, c.hk, List.set_append_right _ _ (by rw [List.length_map, c.hh]; omega), List.length_map, c.hh]
  rfl
theorem ConAt.ne {w : World} {p q : Nat} {c : Con} {cs : Array Value} {t : TypeId} (h : ConAt w p c) (hq : w.heap[q]? = some (.cells cs t (0, 0))) (ht : t ≠ 82) : p ≠ q := by
  intro e
  subst e
  unfold ConAt at h
  rw [h] at hq
  simp only [Option.some.injEq, Obj.cells.injEq] at hq
  exact ht hq.2.1.symm
def Cs.put (m : Cs) (p : Nat) (c : Con) : Cs := m.map fun x => if x.2.1 = p then (x.1, p, c) else x
theorem put_ptrs (m : Cs) (p : Nat) (c : Con) : (m.put p c).ptrs = m.ptrs := by
  unfold Cs.put Cs.ptrs
  rw [List.map_map]
  apply List.map_congr_left
  intro x _
  simp only [Function.comp]
  split
  · rename_i h; rw [← h]
  · rfl
theorem put_apart (m : Cs) (p : Nat) (c : Con) : (m.put p c).map (·.2.1) = m.map (·.2.1) := by
  unfold Cs.put
  rw [List.map_map]
  apply List.map_congr_left
  intro x _
  simp only [Function.comp]
  split
  · rename_i h; rw [← h]
  · rfl
def conOf (m : Cs) (a : UInt8) : Option Con := (look a m).map (·.2)
theorem nodup_ptr {m : Cs} (h : (m.map (·.2.1)).Nodup) {x y : UInt8 × Nat × Con} (hx : x ∈ m) (hy : y ∈ m) (e : x.2.1 = y.2.1) : x = y := by
  induction m with
  | nil => simp at hx
  | cons z m ih =>
    rw [List.map_cons, List.nodup_cons] at h
    rcases List.mem_cons.1 hx with rfl | hx'
    · rcases List.mem_cons.1 hy with rfl | hy'
      · rfl
      · exact absurd (List.mem_map.2 ⟨y, hy', e.symm⟩) h.1
    · rcases List.mem_cons.1 hy with rfl | hy'
      · exact absurd (List.mem_map.2 ⟨x, hx', e⟩) h.1
      · exact ih h.2 hx' hy'
theorem look_put {m : Cs} (h : (m.map (·.2.1)).Nodup) {a : UInt8} {p : Nat} {c c' : Con} (hl : look a m = some (p, c)) (a' : UInt8) : look a' (m.put p c') = if a' = a then some (p, c') else look a' m := by
  induction m with
  | nil => simp [look] at hl
  | cons z m ih =>
    have hn := h
    rw [List.map_cons, List.nodup_cons] at h
    rw [look] at hl
    unfold Cs.put
    rw [List.map_cons, look]
    by_cases hz : a = z.1
    · rw [if_pos hz] at hl
      simp only [Option.some.injEq] at hl
      have hz2 : z.2.1 = p := by rw [hl]
      rw [if_pos hz2]
      by_cases ha : a' = a
      · rw [if_pos (by rw [ha, hz]), if_pos ha]
      · rw [if_neg (by rw [← hz]; exact ha), if_neg ha, look, if_neg (by rw [← hz]; exact ha)]
        -- the rest holds no p
        have hrest : Cs.put m p c' = m := by
          unfold Cs.put
          conv => rhs; rw [← List.map_id m]
          apply List.map_congr_left
          intro x hx
          rw [if_neg]
          · rfl
          · intro e
            exact h.1 (List.mem_map.2 ⟨x, hx, by rw [e, hz2]⟩)
        unfold Cs.put at hrest
        rw [hrest]
    · rw [if_neg hz] at hl
      have hz2 : z.2.1 ≠ p := by
        intro e
        exact h.1 (List.mem_map.2 ⟨_, look_mem hl, e.symm⟩)
      rw [if_neg hz2]
      have := ih h.2 hl
      unfold Cs.put at this
      rw [this, look]
      by_cases ha : a' = z.1
      · rw [if_pos ha, if_pos ha, if_neg (by rw [ha]; exact fun e => hz e.symm)]
      · rw [if_neg ha, if_neg ha]
theorem BookAt.turn {w w' : World} {b g cap r : Nat} {acct : UInt8} {own : List K} {m : Cs} (h : BookAt w b g cap r acct own m) {a : UInt8} {p : Nat} {c c' : Con} (hl : look a m = some (p, c)) (hu : Upd [p] w w') (hc : ConAt w' p c') :
    BookAt w' b g cap r acct own (m.put p c') := by
  have hp := h.con _ (look_mem hl)
  have hb : b ≠ p := fun e => hp.ne h.cell (by decide) e.symm
  have hg : g ≠ p := by
    obtain ⟨sp, h1, _⟩ := h.row
    exact fun e => hp.ne h1 (by decide) e.symm
  have hr : r ≠ p := by
    obtain ⟨es, ck, h1, _⟩ := h.map
    intro e
    subst e
    unfold ConAt at hp
    rw [h1] at hp
    simp at hp
  refine ⟨hu.heap h.cell (by simpa using hb), h.row.upd hu (by simpa using hg), ?_, ?_, ?_⟩
  · rw [put_ptrs]; exact h.map.upd hu (by simpa using hr)
  · intro x hx
    unfold Cs.put at hx
    obtain ⟨y, hy, rfl⟩ := List.mem_map.1 hx
    by_cases e : y.2.1 = p
    · rw [if_pos e]; exact hc
    · rw [if_neg e]; exact (h.con y hy).upd hu (by simpa using e)
  · rw [put_apart]; exact h.apart
theorem look_append {β : Type} (a : UInt8) (m l : List (UInt8 × β)) : look a (m ++ l) = (look a m).or (look a l) := by
  induction m with
  | nil => simp [look]
  | cons y m ih =>
    rw [List.cons_append, look, look]
    split
    · rfl
    · exact ih
/-- Where m' has an account that m has not, it lies in a new block. -/
def NewPtrs (w : World) (m m' : Cs) : Prop := ∀ q, q ∈ m'.map (·.2.1) → q ∈ m.map (·.2.1) ∨ w.heap.size ≤ q
def chg (c : Con) (d : Nat) (k : K) : Bool := c.hs[d]?.getD false && !decide (c.ks[d]? = some k)
def newCells : List Value := conCells newCon
theorem run_build82 (w : World) : (Instr.build 82 #[(2, .int .u8 1)]).run Tryz.prog w = .ok (.agg newCells.toArray) w := by kernel_rfl
theorem new_size82 {cs : List Value} (h : cs.length = 133) : (Tryz.prog.info? 82).map (·.size) = some cs.toArray.size := by
  have : (Tryz.prog.info? 82).map (·.size) = some 133 := by kernel_rfl
  rw [this]; simp [h]
def learnC (c : Con) (d : Nat) (k : K) : Con where
  ks := c.ks.set d k
  hs := c.hs.set d true
  st := if c.st = 2 ∧ ¬ (c.hs[d]? = some true ∧ c.ks[d]? = some k) then 3 else c.st
  hk := by rw [List.length_set]; exact c.hk
  hh := by rw [List.length_set]; exact c.hh
set_option maxHeartbeats 1000000 in
theorem learn_not {w : World} {b g cap r : Nat} {acct : UInt8} {own : List K} {m : Cs} (hb : BookAt w b g cap r acct own m) (a d : UInt8) (k : K) (hm : mayE acct a d = 2) :
    Calls Tryz.prog 11 #[bookV b, devV a d, .agg (keyCells k).toArray] w fun e w' => e = .returned (.tuple #[.bool false, .int .i64 2]) ∧ Upd [] w w' := by
  have c1 := may_book ((hb.upd0 (Upd.new w (.cells #[byteV a, byteV d] 49 (0, 0)))).upd0 (Upd.new _ (.cells (keyCells k).toArray 31 (0, 0)))) a d
  rw [hm] at c1
  clear hb hm
  unfold devV bookV byteV at *
  go_enter Tryz.func11, Tryz.ntmps11
  go_wp2_with (go_at_call 47; refine c1.mono ?_; rintro e w1 ⟨rfl, hu1⟩)
  go_ret2
  exact ⟨rfl, ((Upd.new w _).trans (Upd.new _ _)).trans hu1⟩
set_option maxHeartbeats 1000000 in
set_option maxRecDepth 100000 in
theorem learn_book {w : World} {b g cap r : Nat} {acct : UInt8} {own : List K} {m : Cs} (hb : BookAt w b g cap r acct own m) (a d : UInt8) (k : K) (hm : mayE acct a d = 0) :
    Calls Tryz.prog 11 #[bookV b, devV a d, .agg (keyCells k).toArray] w fun e w' => ∃ m', e = .returned (.tuple #[.bool (chg ((conOf m a).getD newCon) d.toNat k), .int .i64 0]) ∧ BookAt w' b g cap r acct own m' ∧
      (∀ a', conOf m' a' = if a' = a then some (learnC ((conOf m a).getD newCon) d.toNat k) else conOf m a') ∧ Upd (r :: m.map (·.2.1)) w w' ∧ NewPtrs w m m' := by
  have hu0 := (Upd.new w (.cells #[byteV a, byteV d] 49 (0, 0))).trans (Upd.new _ (.cells (keyCells k).toArray 31 (0, 0)))
  have c1 := may_book (hb.upd0 hu0) a d
  rw [hm] at c1
  have hd4 : d.toNat < 4 := by unfold mayE at hm; split at hm <;> omega
  have HD := Lib.hid hd4
  have HB := Lib.hid hb
  have HU0 := Lib.hid hu0
  clear hb hm hu0 hd4
  unfold devV bookV byteV at *
  go_enter Tryz.func11, Tryz.ntmps11
  go_upto_region 4 with (go_at_call 47; refine c1.mono ?_; rintro e w1 ⟨rfl, hu1⟩)
  have hU1 := HU0.out.trans hu1
  have hb1 := HB.out.upd0 hU1
  have hl := lt_of_heap HB.out.cell
  have hbox : w1.heap[w.heap.size]? = some (.cells #[byteV a, byteV d] 49 (0, 0)) := hu1.heap (heap_alloc2_old w _ _) (by simp)
  have hkey : w1.heap[w.heap.size + 1]? = some (.cells (keyCells k).toArray 31 (0, 0)) := hu1.heap (heap_alloc2_new w _ _) (by simp)
  have hba : w1.cell? ⟨w.heap.size, 0, none⟩ = some (.int .u8 (a.toNat : Int)) := cell_of_heap hbox 0
  have hbd : w1.cell? ⟨w.heap.size, 1, none⟩ = some (.int .u8 (d.toNat : Int)) := cell_of_heap hbox 1
  have hbm : w1.cell? ⟨b, 2, none⟩ = some (.map (some r)) := cell_of_heap hb1.cell 2
  have hlk : ∀ n, (Instr.lookup 78 (.map (some r)) (.int .u8 (a.toNat : Int)) false).run Tryz.prog (w1.drewN n) = .ok (ptrOf ((look a m).map (·.1))) (w1.drewN n) := by
    intro n
    have := (hb1.upd0 ((Upd.refl [] w1).drewN n)).map.lookup a
    rw [look_ptrs] at this
    exact this
  obtain ⟨op, hop⟩ : ∃ op : Option Addr, op = ((look a m).map (·.1)).map fun p => ⟨p, 0, none⟩ := ⟨_, rfl⟩
  unfold ptrOf at hlk
  rw [← hop] at hlk
  have heq : ∀ w, (binOp .eql 77 (.pointer op) (.pointer none)).run Tryz.prog w = .ok (.bool op.isNone) w := by intro w; cases op <;> kernel_rfl
  have HOP := Lib.hid hop
  clear hop
  have HU1 := Lib.hid hU1
  have HB1 := Lib.hid hb1
  have HBOX := Lib.hid hbox
  have HKEY := Lib.hid hkey
  clear hU1 hb1 hbox hkey hu1
  go_quiet (fail)
  go_upto_if 26 with fail
  go_cut [9] from 27 to 35 (fun s9 wc => ∃ p c m1, s9 = .pointer (some ⟨p, 0, none⟩) ∧ Hid (BookAt wc b g cap r acct own m1 ∧ look a m1 = some (p, c) ∧ (m1 = m ∨ (look a m = none ∧ m1 = m ++ [(a, p, newCon)] ∧ c = newCon ∧ w.heap.size ≤ p)) ∧ Upd [r] w wc ∧
      wc.heap[w.heap.size]? = some (.cells #[byteV a, byteV d] 49 (0, 0)) ∧ wc.heap[w.heap.size + 1]? = some (.cells (keyCells k).toArray 31 (0, 0))))
  case first =>
    cases op with
    | none =>
      have hnone : look a m = none := by
        have := HOP.out
        cases hl2 : look a m with
        | none => rfl
        | some x => rw [hl2] at this; cases this
      go_upto_region 7 with (refine wpList_build1 rfl 82 2 _ rfl (.int .u8 1) _ rfl (run_build82 _) ?_)
      obtain ⟨W, hW⟩ : ∃ W, (w1.drewN nq).alloc (Obj.cells newCells.toArray 82) = W := ⟨_, rfl⟩
      have hdw : Upd [] w1 W := by rw [← hW]; exact ((Upd.refl [] w1).drewN nq).alloc _
      have hcon : W.heap[w1.heap.size]? = some (.cells (conCells newCon).toArray 82 (0, 0)) := by rw [← hW]; exact heap_alloc_new (w1.drewN nq) _
      rw [hW]
      clear hW
      have hbW := HB1.out.upd0 hdw
      have hba2 : W.cell? ⟨w.heap.size, 0, none⟩ = some (.int .u8 (a.toNat : Int)) := cell_of_heap (hdw.heap HBOX.out (by simp)) 0
      have hbm2 : W.cell? ⟨b, 2, none⟩ = some (.map (some r)) := cell_of_heap hbW.cell 2
      have hdr : Upd [] W W.drew := (Upd.refl [] W).drew
      obtain ⟨W2, hup, hmap2, hu2⟩ := (hbW.map.upd hdr (by simp)).update a (by rw [look_ptrs, hnone]; rfl) w1.heap.size
      unfold byteV at hup
      have HX := Lib.hid (show Upd [] w1 W ∧ W.heap[w1.heap.size]? = some (.cells (conCells newCon).toArray 82 (0, 0)) ∧ MapAt W2 r (m.ptrs ++ [(a, w1.heap.size)]) ∧ Upd [r] W W2 from ⟨hdw, hcon, hmap2, (hdr.mono (by simp)).trans hu2⟩)
      clear hdw hcon hbW hdr hmap2 hu2
      go_region
      go_wp2
      go_meet
      obtain ⟨x1, x2, x3, x4⟩ := HX.out
      have y1 := HU1.out
      have hb := HB.out
      have hrl : r < w.heap.size := by obtain ⟨es, ck, h1, _⟩ := hb.map; exact lt_of_heap h1
      have hsz : w.heap.size ≤ w1.heap.size := y1.size
      have hbW := (hb.upd0 y1).upd0 x1
      have hne : ∀ q, w.heap.size ≤ q → q ∉ [r] := by intro q hq; simp; omega
      refine ⟨w1.heap.size, newCon, m ++ [(a, w1.heap.size, newCon)], rfl, Lib.hid ⟨⟨?_, ?_, ?_, ?_, ?_⟩, ?_, .inr ⟨hnone, rfl, rfl, hsz⟩, ?_, ?_, ?_⟩⟩
      · refine x4.heap hbW.cell ?_
        obtain ⟨es, ck, h1, _⟩ := hbW.map
        have h2 := hbW.cell
        intro e
        rw [List.mem_singleton] at e
        rw [e, h1] at h2
        simp at h2
      · refine hbW.row.upd x4 ?_
        obtain ⟨es, ck, h1, _⟩ := hbW.map
        obtain ⟨sp, h2, _⟩ := hbW.row
        intro e
        rw [List.mem_singleton] at e
        rw [e, h1] at h2
        simp at h2
      · have e : Cs.ptrs (m ++ [(a, w1.heap.size, newCon)]) = m.ptrs ++ [(a, w1.heap.size)] := by simp [Cs.ptrs]
        rw [e]; exact x3
      · intro x hx
        rcases List.mem_append.1 hx with h | h
        · refine (hbW.con x h).upd x4 ?_
          have h2 := hbW.con x h
          obtain ⟨es, ck, h1, _⟩ := hbW.map
          intro e
          rw [List.mem_singleton] at e
          unfold ConAt at h2
          rw [e, h1] at h2
          simp at h2
        · rw [List.mem_singleton] at h
          subst h
          exact x4.heap x2 (hne _ hsz)
      · rw [List.map_append, List.nodup_append]
        refine ⟨hb.apart, by simp, ?_⟩
        intro q hq q' hq' e
        simp only [List.map_cons, List.map_nil, List.mem_singleton] at hq'
        obtain ⟨x, hx, rfl⟩ := List.mem_map.1 hq
        have := lt_of_heap ((hb.upd0 y1).con x hx)
        omega
      · rw [look_append, hnone, look, if_pos rfl]; rfl
      · exact (y1.mono (by simp)).trans ((x1.mono (by simp)).trans x4)
      · exact x4.heap (x1.heap HBOX.out (by simp)) (hne _ (Nat.le_refl _))
      · exact x4.heap (x1.heap HKEY.out (by simp)) (hne _ (by omega))
    | some ad =>
      go_wp2
      go_meet
      have hop := HOP.out
      cases hl2 : look a m with
      | none => rw [hl2] at hop; cases hop
      | some x =>
        rw [hl2] at hop
        simp only [Option.map_some, Option.some.injEq] at hop
        subst hop
        have hd : Upd [] w1 (w1.drewN nq) := (Upd.refl [] w1).drewN nq
        exact ⟨x.1, x.2, m, rfl, Lib.hid ⟨HB1.out.upd0 hd, hl2, .inl rfl, (HU1.out.trans hd).mono (by simp), hd.heap HBOX.out (by simp), hd.heap HKEY.out (by simp)⟩⟩
  case rest =>
    obtain ⟨p, c, m1, rfl, HC⟩ := hcut
    clear hbm hba hbd hlk heq
    go_upto_region 8 with fail
    obtain ⟨hB, hlk1, hor, huc, hbox, hkey⟩ := HC.out
    have hd4 : d.toNat < 4 := HD.out
    obtain ⟨dn, hdn⟩ : ∃ dn, d.toNat = dn := ⟨_, rfl⟩
    have hcon : ConAt wc p c := hB.con _ (look_mem hlk1)
    have hbd : wc.cell? ⟨w.heap.size, 1, none⟩ = some (.int .u8 (dn : Int)) := by rw [← hdn]; exact cell_of_heap hbox 1
    rw [hdn] at hd4
    have HDN := Lib.hid hdn
    clear hdn
    have hdi : (dn : Int) < 4 := by omega
    have hh := hcon.has dn hd4
    obtain ⟨h0, hh0⟩ : ∃ h0, h0 = c.hs[dn]'(by rw [c.hh]; exact hd4) := ⟨_, rfl⟩
    rw [← hh0] at hh
    have HH0 := Lib.hid hh0
    have HCON := Lib.hid hcon
    clear hB hlk1 hor huc hbox hkey hcon hh0
    go_quiet (fail)
    obtain ⟨wd, hwd⟩ : ∃ X, wc.drewN nq = X := ⟨_, rfl⟩
    have HWD := Lib.hid (show Upd [] wc wd by rw [← hwd]; exact (Upd.refl [] wc).drewN nq)
    have hbd2 : wd.cell? ⟨w.heap.size, 1, none⟩ = some (.int .u8 (dn : Int)) := by rw [← hwd]; exact hbd
    rw [hwd]
    clear hh hwd hbd
    have hcon : ConAt wd p c := HCON.out.upd HWD.out (by simp)
    have hst := hcon.state
    have hk4 : dn < c.ks.length := by rw [c.hk]; exact hd4
    obtain ⟨ck, hck⟩ : ∃ ck, ck = c.ks[dn] := ⟨_, rfl⟩
    have hrk : wd.rangeAt p (dn * 32) (keyCells ck) := by rw [hck]; exact hcon.key dn hd4
    have hrb : wd.rangeAt (w.heap.size + 1) 0 (keyCells k) := by
      obtain ⟨_, _, _, _, _, hkey0⟩ := HC.out
      have hkey := HWD.out.heap hkey0 (by simp)
      intro j v hj
      rw [cell_of_heap hkey, Nat.zero_add]
      simp only [List.getElem?_toArray]
      exact hj
    have hq := eqlK ck k
    obtain ⟨sm, hsm⟩ : ∃ sm, sm = decide (ck = k) := ⟨_, rfl⟩
    rw [← hsm] at hq
    have HRK := Lib.hid hrk
    have HRB := Lib.hid hrb
    have HSM := Lib.hid hsm
    have HCK := Lib.hid hck
    have HCON2 := Lib.hid hcon
    clear hrk hrb hck hsm hcon
    go_upto_region 9 with fail
    go_cut [11] from 43 to 54 (fun s11 we => s11 = .bool (h0 && sm) ∧ ∃ n, we = wd.drewN n)
    case first =>
      cases h0 with
      | false =>
        go_quiet (fail)
        go_wp2
        go_meet
        exact ⟨rfl, _, rfl⟩
      | true =>
        refine wp_region_quiet_lit (by kernel_rfl) (by kernel_rfl) ?_
        iterate 8 (go_big_quiet_want; go_big_quiet_op; go_big_quiet_on)
        go_big_quiet_want
        refine quiet_load_key _ rfl p (dn * 32) ck rfl HRK.out ?_
        go_big_quiet_on
        go_simp
        go_big_quiet_want
        refine quiet_load_key _ rfl (w.heap.size + 1) 0 k rfl HRB.out ?_
        go_big_quiet_on
        go_simp
        iterate 3 (go_big_quiet_want; go_big_quiet_op; go_big_quiet_on)
        refine wpQuiet_nil ?_
        intro nx
        go_wp2
        go_meet
        exact ⟨rfl, _, rfl⟩
    case rest =>
      obtain ⟨rfl, nd, rfl⟩ := hcut
      clear hq hst
      have hd : Upd [] wd (wd.drewN nd) := (Upd.refl [] wd).drewN nd
      obtain ⟨we, hwe⟩ : ∃ X, wd.drewN nd = X := ⟨_, rfl⟩
      have hcon3 : ConAt we p c := by rw [← hwe]; exact HCON2.out.upd hd (by simp)
      have HD2 := Lib.hid (show Upd [] wc we from by rw [← hwe]; exact HWD.out.trans hd)
      have hboxe : we.heap[w.heap.size]? = some (.cells #[byteV a, byteV d] 49 (0, 0)) := HD2.out.heap HC.out.2.2.2.2.1 (by simp)
      have hkeye : we.heap[w.heap.size + 1]? = some (.cells (keyCells k).toArray 31 (0, 0)) := HD2.out.heap HC.out.2.2.2.2.2 (by simp)
      have hne1 := hcon3.ne hboxe (by decide)
      have hne2 := hcon3.ne hkeye (by decide)
      have hS : ∀ w' c', Upd [p] we w' → ConAt w' p c' → (w'.cell? ⟨w.heap.size, 1, none⟩ = some (.int .u8 (dn : Int)) ∧ w'.rangeAt (w.heap.size + 1) 0 (keyCells k) ∧ w'.there p (dn * 32) 32 ∧ (w'.cell? ⟨p, 128 + dn, none⟩).isSome = true ∧ w'.frozen? ⟨p, 128 + dn, none⟩ = false) := by
        intro w' c' hu hc
        refine ⟨?_, ?_, hc.there dn hd4, ?_, hc.free _⟩
        · rw [cell_of_heap (hu.heap hboxe (by simp [Ne.symm hne1]))]
          rw [← HDN.out]
          rfl
        · intro j v hj
          rw [cell_of_heap (hu.heap hkeye (by simp [Ne.symm hne2])), Nat.zero_add]
          simp only [List.getElem?_toArray]
          exact hj
        · rw [hc.has dn hd4]; rfl
      have hS0 := hS we.drew c ((Upd.refl [p] we).drew) hcon3
      have hcd : ConAt we.drew p c := hcon3
      have hud : Upd [p] we we.drew := (Upd.refl [p] we).drew
      have hA := hcon3.setHas dn hd4 true
      have hS1 := hS (we.setCell ⟨p, 128 + dn, none⟩ (.bool true)).drew _ hA.2.drew hA.1
      have hB2 := hcd.setKey dn hd4 k
      have hS2 := hS (we.drew.setCells p (dn * 32) (keyCells k)) _ (hud.trans hB2.2) hB2.1
      have hC1 := (show ConAt (we.setCell ⟨p, 128 + dn, none⟩ (.bool true)).drew p _ from hA.1).setKey dn hd4 k
      have hS3 := hS _ _ (hA.2.drew.trans hC1.2) hC1.1
      have hC2 := hB2.1.setHas dn hd4 true
      have hS4 := hS _ _ ((hud.trans hB2.2).trans hC2.2) hC2.1
      have HA := Lib.hid (show _ ∧ _ from ⟨hA.2.drew.trans hC1.2, hC1.1⟩)
      have HBB := Lib.hid (show _ ∧ _ from ⟨(hud.trans hB2.2).trans hC2.2, hC2.1⟩)
      have hhe : we.cell? ⟨p, 128 + dn, none⟩ = some (.bool h0) := by rw [HH0.out]; exact hcon3.has dn hd4
      have hhe2 : (we.drew.setCells p (dn * 32) (keyCells k)).cell? ⟨p, 128 + dn, none⟩ = some (.bool h0) := by rw [HH0.out]; exact hB2.1.has dn hd4
      have hfe := hcon3.free (128 + dn)
      have hfe2 := hB2.1.free (128 + dn)
      have HS0 := Lib.hid hS0
      have HS1 := Lib.hid hS1
      have HS2 := Lib.hid hS2
      have HS3 := Lib.hid hS3
      have HS4 := Lib.hid hS4
      clear hcd hud hA hB2 hC1 hC2 hS0 hS1 hS2 hS3 hS4 hboxe hkeye hS
      have k31 : Tryz.prog.underlying 31 = some (.array 32 5) := Tryz.underlying31
      have s31 : (Tryz.prog.info? 31).map (·.size) = some (keyCells k).length := hu31 k
      have l31 := keyCells_len k
      have o31 := keyCells_one k
      rw [hwe]
      clear hwe hd hcon3 hbd2
      go_upto_region 10 with fail
      go_region_held (fun w' => w'.cell? ⟨w.heap.size, 1, none⟩ = some (.int .u8 (dn : Int)) ∧ w'.rangeAt (w.heap.size + 1) 0 (keyCells k) ∧ w'.there p (dn * 32) 32 ∧ (w'.cell? ⟨p, 128 + dn, none⟩).isSome = true ∧ w'.frozen? ⟨p, 128 + dn, none⟩ = false) (first | exact HS0.out | exact HS1.out | exact HS2.out | exact HS3.out | exact HS4.out) (fail)
      have hfin : ∀ wf, Upd [p] we wf → ConAt wf p (learnC c dn k) → chg c dn k = (h0 && !(h0 && sm)) → ∃ m', Ending.returned (.tuple #[.bool (h0 && !(h0 && sm)), .int .i64 0]) = .returned (.tuple #[.bool (chg ((conOf m a).getD newCon) d.toNat k), .int .i64 0]) ∧ BookAt wf b g cap r acct own m' ∧
          (∀ a', conOf m' a' = if a' = a then some (learnC ((conOf m a).getD newCon) d.toNat k) else conOf m a') ∧ Upd (r :: m.map (·.2.1)) w wf ∧ NewPtrs w m m' := by
        intro wf hu hc hch
        obtain ⟨hB, hlk1, hor, huc, _, _⟩ := HC.out
        have huw : Upd [p] wc wf := (HD2.out.mono (by simp)).trans hu
        have hco : conOf m1 a = some c := by unfold conOf; rw [hlk1]; rfl
        have hce : (conOf m a).getD newCon = c ∧ (∀ a', a' ≠ a → conOf m1 a' = conOf m a') := by
          rcases hor with rfl | ⟨h1, rfl, rfl, h4⟩
          · rw [hco]; exact ⟨rfl, fun _ _ => rfl⟩
          · constructor
            · unfold conOf; rw [h1]; rfl
            · intro a' ha'
              unfold conOf
              rw [look_append, look, if_neg ha', look]
              cases look a' m <;> rfl
        rw [hce.1, HDN.out]
        refine ⟨Cs.put m1 p (learnC c dn k), by rw [hch], hB.turn hlk1 huw hc, ?_, ?_, ?_⟩
        · intro a'
          unfold conOf
          rw [look_put hB.apart hlk1]
          by_cases ha : a' = a
          · rw [if_pos ha, if_pos ha]; rfl
          · rw [if_neg ha, if_neg ha]; exact hce.2 a' ha
        · refine (huc.mono (by simp)).trans' huw ?_
          intro x hx
          rw [List.mem_singleton] at hx
          subst hx
          rcases hor with rfl | ⟨h1, rfl, rfl, h4⟩
          · exact .inl (List.mem_cons_of_mem _ (List.mem_map.2 ⟨_, look_mem hlk1, rfl⟩))
          · exact .inr h4
        · intro q hq
          rw [put_apart] at hq
          rcases hor with rfl | ⟨h1, rfl, rfl, h4⟩
          · exact .inl hq
          · rw [List.map_append, List.mem_append] at hq
            rcases hq with hq | hq
            · exact .inl hq
            · simp at hq
              exact .inr (by omega)
      have HF := Lib.hid hfin
      clear hfin
      obtain ⟨x1, x2⟩ := HA.out
      generalize (we.setCell ⟨p, 128 + dn, none⟩ (.bool true)).drew.setCells p (dn * 32) (keyCells k) = wf at x1 x2 ⊢
      have hst := x2.state
      have hfr := x2.free 132
      obtain ⟨cF, hcF⟩ : ∃ cF, cF = (c.setHas dn true).setKey dn k := ⟨_, rfl⟩
      rw [← hcF] at x2 hst
      have hst2 : cF.st = c.st := by rw [hcF]; rfl
      have hlc : ∀ s, s = (learnC c dn k).st → cF.setSt s = learnC c dn k := by rw [hcF]; rintro s rfl; rfl
      have e1 : c.hs[dn]? = some h0 := by rw [HH0.out]; exact List.getElem?_eq_getElem _
      have e2 : c.ks[dn]? = some ck := by rw [HCK.out]; exact List.getElem?_eq_getElem _
      have e3 : decide (ck = k) = sm := HSM.out.symm
      have hls : (learnC c dn k).st = if c.st = 2 ∧ ¬ ((h0 && sm) = true) then 3 else c.st := by
        unfold learnC
        simp only [e1, e2, Option.some.injEq, Bool.and_eq_true, ← e3, decide_eq_true_eq]
      have hch : chg c dn k = (h0 && !(h0 && sm)) := by
        unfold chg
        simp only [e1, e2, Option.some.injEq, e3, Option.getD_some]
        cases h0 <;> cases sm <;> rfl
      clear e1 e2 e3
      unfold byteV at hst
      obtain ⟨sb, hsb⟩ : ∃ sb, sb = (h0 && sm) := ⟨_, rfl⟩
      rw [← hsb] at HF hls hch ⊢
      have HX := Lib.hid (show Upd [p] we wf ∧ ConAt wf p cF from ⟨x1, x2⟩)
      have HL := Lib.hid hlc
      have HS := Lib.hid hls
      have HCH := Lib.hid hch
      clear x1 x2 hlc hls hch hcF hsb
      rw [hst2] at hst
      have hstay : ¬ (c.st = 2 ∧ ¬ (sb = true)) → ConAt wf p (learnC c dn k) := by
        intro hno
        have e := HS.out
        rw [if_neg hno] at e
        have := HL.out c.st e.symm
        rw [← this, ← hst2]
        exact HX.out.2
      have hturn : c.st = 2 ∧ ¬ (sb = true) → ConAt (wf.setCell ⟨p, 132, none⟩ (.int .u8 3)) p (learnC c dn k) := by
        intro hyes
        have e := HS.out
        rw [if_pos hyes] at e
        rw [← HL.out 3 e.symm]
        exact (HX.out.2.setSt 3).1
      have HY := Lib.hid (show _ ∧ _ from ⟨hstay, hturn⟩)
      clear hstay hturn
      by_cases h2 : c.st = 2
      · rw [h2] at hst
        cases sb with
        | true =>
          have f := HF.out wf HX.out.1 (HY.out.1 (by simp)) HCH.out
          have HFF := Lib.hid f
          clear f hst2
          cases h0 <;> go_wp2 <;> go_ret2 <;> (obtain ⟨m', f1, f2⟩ := HFF.out; first | exact ⟨m', f1, f2⟩ | exact ⟨f1, m', f2⟩)
        | false =>
          have f := HF.out (wf.setCell ⟨p, 132, none⟩ (.int .u8 3)) (HX.out.1.trans (HX.out.2.setSt 3).2) (HY.out.2 ⟨h2, by simp⟩) HCH.out
          have HFF := Lib.hid f
          clear f hst2
          cases h0 <;> go_wp2 <;> go_ret2 <;> (obtain ⟨m', f1, f2⟩ := HFF.out; first | exact ⟨m', f1, f2⟩ | exact ⟨f1, m', f2⟩)
      · have h2' : ((c.st.toNat : Int) == 2) = false := by rw [beq_eq_false_iff_ne]; intro e; exact h2 (UInt8.toNat_inj.1 (by have : (2 : UInt8).toNat = 2 := rfl; omega))
        have f := HF.out wf HX.out.1 (HY.out.1 (fun h => h2 h.1)) HCH.out
        have HFF := Lib.hid f
        clear f hst2
        cases h0 <;> cases sb <;> go_wp2 <;> go_ret2 <;> (obtain ⟨m', f1, f2⟩ := HFF.out; first | exact ⟨m', f1, f2⟩ | exact ⟨f1, m', f2⟩)
end Go.Proofs.YtdbceafejbnebaaGreatDoor
/-! Books: New, no book. -/
namespace Go.Proofs.YtdbceafejbnebaaGreatDoor
open Go Go.RowKit
set_option maxHeartbeats 400000 in
theorem learn_nil (a d : UInt8) (k : K) (w : World) : Calls Tryz.prog 11 #[.pointer none, devV a d, .agg (keyCells k).toArray] w fun e w' => e = .returned (.tuple #[.bool false, .int .i64 1]) ∧ Upd [] w w' := by
  have c1 := may_nil a d ((w.alloc (.cells #[byteV a, byteV d] 49 (0, 0))).alloc (.cells (keyCells k).toArray 31 (0, 0)))
  unfold devV byteV at *
  go_enter Tryz.func11, Tryz.ntmps11
  go_wp2_with (go_at_call 47; refine c1.mono ?_; rintro e w1 ⟨rfl, hu1⟩)
  go_ret2
  exact ⟨rfl, ((Upd.new w _).trans (Upd.new _ _)).trans hu1⟩
/-- New, where it may not be. -/
theorem new_not (a : UInt8) (v : Option Addr) (n cap : Nat) (w : World) (h : 8 ≤ a.toNat ∨ n < 1 ∨ 4 < n) :
    Calls Tryz.prog 9 #[byteV a, .slice v n cap] w fun e w' => e = .returned (.tuple #[.pointer none, .int .i64 2]) ∧ w' = w := by
  unfold byteV
  by_cases h1 : 8 ≤ a.toNat
  · have h1' : (8 : Int) ≤ (a.toNat : Int) := by omega
    go_enter Tryz.func9, Tryz.ntmps9
    go_wp2
    go_ret2
    exact ⟨rfl, rfl⟩
  · have h1' : decide ((8 : Int) ≤ (a.toNat : Int)) = false := by simp; omega
    have h1'' : (a.toNat : Int) < 8 := by omega
    by_cases h2 : n < 1
    · have h2' : (n : Int) < 1 := by omega
      go_enter Tryz.func9, Tryz.ntmps9
      go_wp2
      go_ret2
      exact ⟨rfl, rfl⟩
    · have h2' : decide ((n : Int) < 1) = false := by simp; omega
      have h3 : (4 : Int) < (n : Int) := by omega
      have h2'' : (1 : Int) ≤ (n : Int) := by omega
      go_enter Tryz.func9, Tryz.ntmps9
      go_wp2
      go_ret2
      exact ⟨rfl, rfl⟩
set_option maxHeartbeats 400000 in
theorem new_book (a : UInt8) (g cap : Nat) (l : List K) (w : World) (hr : RowK w g cap l) (ha : a.toNat < 8) (h1 : 1 ≤ l.length) (h4 : l.length ≤ 4) :
    Calls Tryz.prog 9 #[byteV a, .slice (some ⟨g, 0, none⟩) l.length cap] w fun e w' => ∃ b g' cap' r, e = .returned (.tuple #[bookV b, .int .i64 0]) ∧ BookAt w' b g' cap' r a (setF l) [] ∧ Upd [] w w' ∧ w.heap.size ≤ b ∧ w.heap.size ≤ g' ∧ w.heap.size ≤ r := by
  have hs := set46 g cap l w hr (by omega) h1
  have h1' : decide ((8 : Int) ≤ (a.toNat : Int)) = false := by simp; omega
  have h1'' : (a.toNat : Int) < 8 := by omega
  have h2' : decide ((l.length : Int) < 1) = false := by simp; omega
  have h3 : decide ((4 : Int) < (l.length : Int)) = false := by simp; omega
  have h2'' : (1 : Int) ≤ (l.length : Int) := by omega
  have h3'' : (l.length : Int) ≤ 4 := by omega
  clear hr h1 h4 ha
  unfold byteV bookV at *
  have hmm := @run_makeMap Tryz.prog
  go_enter Tryz.func9, Tryz.ntmps9
  go_wp2_with (go_at_call 46; refine hs.mono ?_; clear hs; rintro e w1 ⟨g1, cap1, rfl, hu1, hr1, hg1⟩; have HR := Lib.hid hr1; clear hr1)
  go_ret2
  have hu2 : Upd [] w1 ((w1.alloc (Obj.map #[] 0)).alloc (Obj.cells #[Value.int IntKind.u8 ↑a.toNat, Value.slice (some { block := g1, off := 0 }) (setF l).length cap1, Value.map (some w1.heap.size)] 80)) := ((Upd.refl [] w1).alloc _).alloc _
  have hsz := hu1.size
  refine ⟨w1.heap.size + 1, g1, cap1, w1.heap.size, rfl, ⟨?_, HR.out.upd hu2 (by simp), ?_, by simp, by simp⟩, hu1.trans hu2, by omega, hg1, hsz⟩
  · exact heap_alloc2_new w1 _ _
  · exact ⟨#[], 0, heap_alloc2_old w1 _ _, rfl⟩
end Go.Proofs.YtdbceafejbnebaaGreatDoor
