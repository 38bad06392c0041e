/- The law: TrustLoads, walked. -/
import Derived.Test.YtdbceafejbnebaaGreatDoorM32
import Derived.Test.YtdbceafejbnebaaGreatDoorM31
import Derived.Lib.SliceRun
namespace Go.Proofs.YtdbceafejbnebaaGreatDoor
open Go Go.RowKit
theorem Tryz.zero5 (w : World) : (zeroValue 5).run Tryz.prog w = .ok (.int .u8 0) w := by kernel_rfl
theorem clear22 {w : World} {B g n cap : Nat} {xs : List UInt8} (h : w.ownsRow B 5 1 (.slice (some ⟨g, 0, none⟩) n cap) n (xs.map byteV)) :
    ∃ w', (∀ ty, (Builtin.clear_ #[22] ty #[.slice (some ⟨g, 0, none⟩) n cap]).run Tryz.prog w = .ok (.tuple #[]) w') ∧ Upd [g] w w' := by
  obtain ⟨hl, ⟨q, _⟩ | ⟨g', cap', cur, hv, hb, hg, hc, hm, hs, ht⟩⟩ := h
  · cases q
  · cases hv
    by_cases h0 : n = 0
    · subst h0
      refine ⟨w, fun ty => ?_, Upd.refl _ _⟩
      simp [Builtin.clear_, run_underlying Tryz.underlying22]
    · have hsz : cur.size = cap := by rw [hs, Nat.mul_one]
      refine ⟨_, fun ty => Lib.run_clear_slice (P := Tryz.prog) w 22 5 ty (.int .u8 0) Tryz.underlying22 Tryz.zero5 rfl rfl g 0 n cap (by omega) (fun j hj => ?_) (fun j hj => free_of_heap hg _), ?_⟩
      · rw [cell_of_heap hg, Array.getElem?_eq_getElem (by omega)]
        rfl
      · rw [setCells_eq 0 _ hg (by rw [List.length_replicate]; omega) (by intro v hv; rw [List.eq_of_mem_replicate hv]; rfl)]
        exact upd_setRow w g _
/-- The bytes that a slice shows, a nil one too. -/
def XAt (w : World) (ad : Option Addr) (cx : Nat) (xs : List UInt8) : Prop := xs.length ≤ cx ∧ ((ad = none ∧ xs = [] ∧ cx = 0) ∨ (xs = [] ∧ ∃ x, ad = some x) ∨ ∃ g off, ad = some ⟨g, off, none⟩ ∧ g < w.heap.size ∧ LieAt w g off xs)
/-- What a slice of bytes shows, wherever it leads. -/
def ViewX (w : World) (x : Value) (ys : List UInt8) : Prop :=
  (x = .slice none 0 0 ∧ ys = []) ∨ ∃ (a : Addr) (c : Nat), x = .slice (some a) ys.length c ∧ ∀ j u, (ys.map byteV)[j]? = some u → w.cell? (a.add j) = some u
theorem ViewX.upd {w w' : World} {x : Value} {ys : List UInt8} (h : ViewX w x ys) (hu : Upd [] w w') : ViewX w' x ys := by
  rcases h with h | ⟨a, c, h1, h2⟩
  · exact .inl h
  · refine .inr ⟨a, c, h1, fun j u hj => ?_⟩
    have q := h2 j u hj
    have hb := hu.block (a.add j).block (World.block_lt_of_cell? w _ q) (by simp)
    rw [← q]
    simp only [World.cell?, hb]
theorem XAt.view {w : World} {ad : Option Addr} {cx : Nat} {xs : List UInt8} (h : XAt w ad cx xs) : ViewX w (.slice ad xs.length cx) xs := by
  obtain ⟨h1, ⟨rfl, rfl, rfl⟩ | ⟨rfl, x, rfl⟩ | ⟨g, off, rfl, hg, hl⟩⟩ := h
  · exact .inl ⟨rfl, rfl⟩
  · exact .inr ⟨x, cx, rfl, fun j u hj => by simp at hj⟩
  · refine .inr ⟨⟨g, off, none⟩, cx, rfl, fun j u hj => ?_⟩
    rw [List.getElem?_map] at hj
    obtain ⟨c, hc, rfl⟩ := Option.map_eq_some_iff.1 hj
    obtain ⟨hj2, rfl⟩ := List.getElem?_eq_some_iff.1 hc
    rw [Addr.add_lit]
    exact hl j hj2
theorem XAt.inp {w : World} {ad : Option Addr} {cx : Nat} {xs : List UInt8} (h : XAt w ad cx xs) (h3 : xs.length ≤ 3000) : InAt w w.heap.size ad cx xs := by
  obtain ⟨h1, ⟨rfl, rfl, rfl⟩ | ⟨rfl, x, rfl⟩ | ⟨g, off, rfl, hg, hl⟩⟩ := h
  · exact ⟨h1, h3, .inl rfl⟩
  · exact ⟨h1, h3, .inl rfl⟩
  · exact ⟨h1, h3, .inr ⟨g, off, rfl, hg, hl⟩⟩
theorem XAt.upd {S : List Nat} {w w' : World} {ad : Option Addr} {cx : Nat} {xs : List UInt8} (h : XAt w ad cx xs) (hu : Upd S w w') (hS : ∀ k ∈ S, w.heap.size ≤ k) : XAt w' ad cx xs := by
  obtain ⟨h1, h2 | h2 | ⟨g, off, h2, hg, hl⟩⟩ := h
  · exact ⟨h1, .inl h2⟩
  · exact ⟨h1, .inr (.inl h2)⟩
  · exact ⟨h1, .inr (.inr ⟨g, off, h2, Nat.lt_of_lt_of_le hg hu.size, hl.upd hu (fun q => by have := hS g q; omega)⟩)⟩
/-- An append of bytes to a slice that is not nil. -/
theorem wpList_app22n {ops : Array Oper} {rest : List Oper} {o : Oper} {a : Act} {Q : Exit → Act → World → Prop} {w W : World} (hg : o.guard = none) (s x : Operand) (ho : o.op = .call { callee := .builtin .append, args := #[s, x], argTypes := #[22, 22] })
    (g cap : Nat) (xv : Value) (hs : a.eval s = .slice (some ⟨g, 0, none⟩) 0 cap) (hx : a.eval x = xv) (ys : List UInt8) (hown : w.ownsRow W.heap.size 5 1 (.slice (some ⟨g, 0, none⟩) 0 cap) 0 []) (hv : ViewX w xv ys) (hl : ys.length ≤ 100000)
    (hu : Upd [] W w)
    (h : ∀ g' cap' w', w'.ownsRow W.heap.size 5 1 (.slice (some ⟨g', 0, none⟩) ys.length cap') ys.length (ys.map byteV) → Upd [] W w' → wpList Tryz.prog ops Q rest (a.put o.dst (.slice (some ⟨g', 0, none⟩) ys.length cap')) w') : wpList Tryz.prog ops Q (o :: rest) a w := by
  have key : ∃ v' w', (Builtin.append_ #[22, 22] o.type #[.slice (some ⟨g, 0, none⟩) 0 cap, xv]).run Tryz.prog w = .ok v' w' ∧ w'.ownsRow W.heap.size 5 1 v' ys.length (ys.map byteV) ∧ Upd [] W w' ∧ v' ≠ .slice none 0 0 := by
    obtain ⟨i0, hi0, hz0, hz1, hz2⟩ := info_parts Tryz.info5
    rcases hv with ⟨rfl, h3⟩ | ⟨ax, c, rfl, hn⟩
    · subst h3
      exact ⟨_, w, run_append_owned_none w W.heap.size 22 o.type 5 i0 1 Tryz.underlying22 hi0 _ 0 [] hown, hown, hu, by simp⟩
    · have hm : 0 + ys.length ≤ maxLen := Nat.le_trans (by omega) (show 100000 ≤ maxLen by decide)
      have hbig : (0 + ys.length) * 1 ≤ 140737488355328 := by omega
      obtain ⟨v', w', q1, q2, q3, q4⟩ := run_append_own (P := Tryz.prog) w W.heap.size 22 o.type 5 i0 _ 1 1 Tryz.underlying22 hi0 hz0 hz1 hz2 rfl (by decide) (.slice (some ⟨g, 0, none⟩) 0 cap) 0 [] hown ax ys.length c (ys.map byteV) (by simp) hn (byteV_one ys) hm hbig hu.size
      refine ⟨v', w', q1, ?_, upd_grown hu q3 (fun k hk => owns_block hown k hk), fun e => ?_⟩
      · rw [Nat.zero_add] at q2
        exact q2
      · have := (q4.1 e).1
        cases this
  obtain ⟨v', w', q1, q2, q3, q4⟩ := key
  obtain ⟨g', cap', rfl⟩ := owns_slice q2 q4
  refine wpList_plain hg fun K hK => ?_
  unfold Oper.wp
  rw [run_exec_append a.eval o ho hs hx q1]
  exact hK _ _ (h g' cap' w' q2 q3)
set_option maxHeartbeats 1000000 in
set_option maxRecDepth 100000 in
theorem trustLoads3 {w : World} (mx : Int) (hm : w.cell? ⟨0, 0, none⟩ = some (.int .i64 mx)) (h0 : 0 < w.heap.size) {ad : Option Addr} {cx : Nat} (xs : List UInt8) (hx : XAt w ad cx xs) :
    Calls Tryz.prog 3 #[.slice ad xs.length cx] w fun e w' => e = .returned (.bool true) ∧ Upd [] w w' := by
  have k4 := known4 mx hm h0
  have HX := Lib.hid hx
  clear hm h0 hx
  by_cases hl : xs.length ≤ 3000
  · have hlI : decide (3000 < xs.length) = false := by simp; omega
    have hlJ : (xs.length : Int) ≤ 3000 := by omega
    have hlK : ¬ (3000 : Int) < (xs.length : Int) := by omega
    have HL := Lib.hid hl
    clear hl
    go_enter Tryz.func3, Tryz.ntmps3
    go_upto_region 6 with (first
      | (go_at_call 4; refine k4.mono ?_; clear k4; rintro e w1 ⟨rfl, hu1⟩; have HX1 := Lib.hid (show _ ∧ _ from ⟨hu1, HX.out.upd hu1 (by simp)⟩); clear hu1)
      | (at_builtin; refine wpList_app22n (W := w1) rfl (.tmp 13) (.tmp 14) rfl w1.heap.size 0 (.slice ad xs.length cx) rfl rfl xs (World.ownsRow_lit _ #[] 0 (Nat.le_refl _) (by decide) rfl) ((HX1.out.2.view).upd (Upd.new w1 _)) (by have := HL.out; omega) (Upd.new w1 _) ?_; intro gl cl w2 ho2 hu2; have H2 := Lib.hid (show _ ∧ _ from ⟨ho2, hu2⟩); clear ho2 hu2))
    obtain ⟨gl2, hgl1, hgl2, hsl⟩ := SlB.of_owns H2.out.1 (by simp)
    have hgl : gl2 = gl := by
      obtain ⟨_, _, _, _, hv, _⟩ := hsl
      cases hv
      rfl
    subst hgl
    have c5 := load5 gl2 0 cl xs hsl HL.out
    have H3 := Lib.hid (show _ ∧ _ from ⟨hgl1, hgl2⟩)
    clear hsl hgl1 hgl2
    rcases load_ref xs with ⟨hn1, hn2⟩ | ⟨acct, own, μ, ρ, hs1, hs2, hal, hbm, hrb⟩
    · have c5n : Calls Tryz.prog 5 #[.slice (some ⟨gl2, 0, none⟩) xs.length cl] w2 fun e w' => e = .returned (.tuple #[.pointer none, .int .i64 9]) ∧ Upd [] w2 w' := by
        refine c5.mono ?_
        rintro e w' (⟨_, h2, h3⟩ | ⟨a, o, u, b, h2, _⟩)
        · exact ⟨h2, h3⟩
        · rw [hn1] at h2; cases h2
      have HN := Lib.hid hn2
      clear c5 hn1 hn2
      go_upto_region 7 with (go_at_call 5; refine c5n.mono ?_; clear c5n; rintro e w3 ⟨rfl, hu3⟩)
      obtain ⟨w4, hcl, hu4⟩ := clear22 (owns_upd H2.out.1 hu3 (by simp))
      have hw14 : Upd [] w1 w4 := (H2.out.2.trans hu3).trans' hu4 (by have := H3.out.1; simpa using this)
      have c6 := rload6 xs ((HX1.out.2.upd hw14 (by simp)).inp HL.out)
      rw [HN.out] at c6
      have H4 := Lib.hid hw14
      clear hu3 hu4 hw14
      go_wp2_with (first
        | (go_at_call 6; refine c6.mono ?_; clear c6; rintro e w5 ⟨hu5, hr5⟩; cases hr5; have hz := heap_alloc_new w5 (.cells (refCells 0 (.slice none 0 0) noneR).toArray 37); have H5 := Lib.hid (show _ ∧ _ from ⟨hu5, hz⟩); clear hu5 hz)
        | (refine wpList_runV rfl (some 6) rfl _ _ (run_exec_alloc37 _ _ rfl _) ?_)
        | (refine wpList_store_row rfl 37 (.tmp 6) (.tmp 25) rfl w5.heap.size (refCells 0 (.slice none 0 0) noneR).toArray rfl rfl 37 (refCells 0 (.slice none 0 0) noneR).toArray H5.out.2 (size37c _ _ _) rfl (refCells_all _ _ _ rfl) ?_))
      go_ret
      exact ⟨rfl, (((HX1.out.1.trans H4.out).trans H5.out.1).trans (Upd.new _ _)).setRow (.inl (by have := ((HX1.out.1.trans H4.out).trans H5.out.1).size; omega)) _⟩
    · have c5s : Calls Tryz.prog 5 #[.slice (some ⟨gl2, 0, none⟩) xs.length cl] w2 fun e w' => ∃ b, e = .returned (.tuple #[bookV b, .int .i64 0]) ∧ NewBook w2.heap.size w' b acct (setF own) μ ∧ Upd [] w2 w' := by
        refine c5.mono ?_
        rintro e w' (⟨h1, h2, h3⟩ | ⟨a, o, u, b, h2, h3, h4, h5⟩)
        · rw [hs1] at h1; cases h1
        · rw [hs1] at h2; cases h2; exact ⟨b, h3, h4, h5⟩
      have hlen := loadM_own hs1
      have HN := Lib.hid (show _ ∧ _ ∧ _ ∧ _ from ⟨hs2, hal, hbm, hlen⟩)
      clear c5 hs1 hs2 hal hbm hrb hlen
      unfold bookV at c5s
      go_upto_region 7 with (go_at_call 5; refine c5s.mono ?_; clear c5s; rintro e w3 ⟨b, rfl, hbk, hu3⟩)
      obtain ⟨w4, hcl, hu4⟩ := clear22 (owns_upd H2.out.1 hu3 (by simp))
      have hw14 : Upd [] w1 w4 := (H2.out.2.trans hu3).trans' hu4 (by have := H3.out.1; simpa using this)
      obtain ⟨gb, cb, rb, m, hB, hm, hb1, hb2, hb3, hb4⟩ := hbk
      have hB4 : BookAt w4 b gb cb rb acct (setF own) m := hB.upd hu4 (by have := H3.out.2; simp; omega) (by have := H3.out.2; simp; omega) (by have := H3.out.2; simp; omega) (fun x hx => by have h1 := hb4 x.2.1 (List.mem_map.2 ⟨x, hx, rfl⟩); have := H3.out.2; simp; omega)
      have c6 := rload6 xs ((HX1.out.2.upd hw14 (by simp)).inp HL.out)
      rw [HN.out.1] at c6
      have H4 := Lib.hid (show _ ∧ _ ∧ _ from ⟨hw14, hB4, hm⟩)
      clear hu3 hu4 hw14 hB hB4 hm hb1 hb2 hb3 hb4
      go_upto_region 9 with (first
        | (go_at_call 6; refine c6.mono ?_; clear c6; rintro e w5 ⟨hu5, go, cap, rfl, h42, hgo, hrows⟩; have hz := heap_alloc_new w5 (.cells (refCells 0 (.slice none 0 0) noneR).toArray 37); have H5 := Lib.hid (show _ ∧ _ ∧ _ ∧ _ from ⟨hu5, hz, h42, hrows⟩); clear hu5 hz h42 hgo hrows)
        | (refine wpList_runV rfl (some 6) rfl _ _ (run_exec_alloc37 _ _ rfl _) ?_)
        | (refine wpList_store_row rfl 37 (.tmp 6) (.tmp 25) rfl w5.heap.size (refCells acct (.slice (some ⟨go, 0, none⟩) own.length cap) ρ).toArray rfl rfl 37 (refCells 0 (.slice none 0 0) noneR).toArray H5.out.2.1 (size37c _ _ _) (by rw [List.size_toArray, List.size_toArray, refCells_len, refCells_len]) (refCells_all _ _ _ rfl) ?_))
      obtain ⟨r6, hr6⟩ : ∃ r6, r6 = w5.heap.size := ⟨_, rfl⟩
      obtain ⟨wz, hwz⟩ : ∃ X, (w5.alloc (Obj.cells (refCells 0 (Value.slice none 0 0) noneR).toArray 37)).setRow w5.heap.size (refCells acct (Value.slice (some ⟨go, 0, none⟩) own.length cap) ρ).toArray = X := ⟨_, rfl⟩
      have hrz : RefAt wz r6 acct (.slice (some ⟨go, 0, none⟩) own.length cap) ρ := by rw [← hwz, hr6]; exact setRow_heap _ _ _ _ 37 (0, 0) H5.out.2.1
      have huz : Upd [] w5 wz := by rw [← hwz]; exact (Upd.new w5 _).setRow (.inl (Nat.le_refl _)) _
      rw [hwz, ← hr6]
      have hBz := H4.out.2.1.upd0 (H5.out.1.trans huz)
      have hw1z := H4.out.1.trans (H5.out.1.trans huz)
      have hrows : ∀ j u, (own.flatMap keyCells)[j]? = some u → wz.cell? ⟨go, 0 + j, none⟩ = some u := fun j u hj => by
        have z := H5.out.2.2.2 j u hj
        rw [cell_same (huz.block go (World.block_lt_of_cell? w5 ⟨go, 0 + j, none⟩ z) (by simp))]
        exact z
      have HW := Lib.hid (show _ ∧ _ ∧ _ ∧ _ ∧ _ from ⟨hrz, hBz, hrows, (HX1.out.2.upd hw1z (by simp)).inp HL.out, HX1.out.1.trans hw1z⟩)
      clear hr6 hwz hrz huz hBz hw1z hrows
      go_upto_region 11 with fail
      have c7 : ∀ W, Upd [] wz W → Calls Tryz.prog 7 #[.pointer (some ⟨b, 0, none⟩), .pointer (some ⟨r6, 0, none⟩)] W fun e w' => e = .returned (.bool true) ∧ Upd [] W w' := by
        intro W hu
        refine alike7 (HW.out.2.1.upd0 hu) (ρ := ρ) (by rw [H4.out.2.2]; exact HN.out.2.1) (HW.out.1.upd hu (by simp)) (fun j u hj => ?_) rfl HN.out.2.2.2.1 HN.out.2.2.2.2 H5.out.2.2.1
        have z := HW.out.2.2.1 j u hj
        rw [cell_same (hu.block go (World.block_lt_of_cell? wz ⟨go, 0 + j, none⟩ z) (by simp))]
        exact z
      have c8 : ∀ W, Upd [] wz W → Calls Tryz.prog 8 #[.pointer (some ⟨b, 0, none⟩)] W fun e w' => ∃ h c, e = .returned (.slice (some ⟨h, 0, none⟩) xs.length c) ∧ w'.ownsRow W.heap.size 5 1 (.slice (some ⟨h, 0, none⟩) xs.length c) xs.length (xs.map byteV) ∧ Upd [] W w' := by
        intro W hu
        have q := bytes_book (HW.out.2.1.upd0 hu) HN.out.2.2.2.1 HN.out.2.2.2.2
        have e : bookB acct (setF own) m = xs := by rw [bookB_eq, H4.out.2.2]; exact HN.out.2.2.1
        rw [e] at q
        exact q
      have H7 := Lib.hid (show _ ∧ _ from ⟨c7, c8⟩)
      clear c7 c8
      refine region_E (Upd [] wz) (fun _ => false) (by kernel_rfl) ?_
      have s0 : Upd [] wz wz.drew := (Upd.refl [] wz).drew
      refine takeE 0 (some 35) (.int .i64 0) rfl rfl (by kernel_rfl) (by kernel_rfl) (by kernel_rfl) (by kernel_rfl) (fun _ _ _ h => h) (by kernel_rfl) (fun w' hw' => by go_simp) s0 ?_
      simp only [Act.put, List.setIfInBounds_toArray, List.set_cons_zero, List.set_cons_succ]
      refine takeE 1 (some 36) (.bool true) rfl rfl (by kernel_rfl) (by kernel_rfl) (by kernel_rfl) (by kernel_rfl) (fun _ _ _ h => h) (by kernel_rfl) (fun w' hw' => by go_simp) s0 ?_
      simp only [Act.put, List.setIfInBounds_toArray, List.set_cons_zero, List.set_cons_succ]
      refine takeE 2 (some 37) (.bool true) rfl rfl (by kernel_rfl) (by kernel_rfl) (by kernel_rfl) (by kernel_rfl) (fun _ _ _ h => h) (by kernel_rfl) (fun w' hw' => by go_simp) s0 ?_
      simp only [Act.put, List.setIfInBounds_toArray, List.set_cons_zero, List.set_cons_succ]
      refine takeE 3 (some 38) (.pointer (some ⟨b, 0, none⟩)) rfl rfl (by kernel_rfl) (by kernel_rfl) (by kernel_rfl) (by kernel_rfl) (fun _ _ _ h => h) (by kernel_rfl) (fun w' hw' => by go_simp) s0 ?_
      simp only [Act.put, List.setIfInBounds_toArray, List.set_cons_zero, List.set_cons_succ]
      refine oneE 4 (by kernel_rfl) ?_
      refine callE (some 39) rfl rfl (by kernel_rfl) (f := 7) (args := #[.pointer (some ⟨b, 0, none⟩), .pointer (some ⟨r6, 0, none⟩)]) (by go_simp) (H7.out.1 _ s0) ?_
      rintro e w7 ⟨rfl, hu7⟩
      have s7 := s0.trans hu7
      refine ⟨_, rfl, fun _ => s7, ?_⟩
      simp only [Act.put, List.setIfInBounds_toArray, List.set_cons_zero, List.set_cons_succ]
      refine takeE 5 (some 40) (.bool true) rfl rfl (by kernel_rfl) (by kernel_rfl) (by kernel_rfl) (by kernel_rfl) (fun _ _ _ h => h) (by kernel_rfl) (fun w' hw' => by go_simp) s7 ?_
      simp only [Act.put, List.setIfInBounds_toArray, List.set_cons_zero, List.set_cons_succ]
      refine takeE 6 (some 41) (.bool true) rfl rfl (by kernel_rfl) (by kernel_rfl) (by kernel_rfl) (by kernel_rfl) (fun _ _ _ h => h) (by kernel_rfl) (fun w' hw' => by go_simp) s7 ?_
      simp only [Act.put, List.setIfInBounds_toArray, List.set_cons_zero, List.set_cons_succ]
      refine takeE 7 (some 42) (.pointer (some ⟨b, 0, none⟩)) rfl rfl (by kernel_rfl) (by kernel_rfl) (by kernel_rfl) (by kernel_rfl) (fun _ _ _ h => h) (by kernel_rfl) (fun w' hw' => by go_simp) s7 ?_
      simp only [Act.put, List.setIfInBounds_toArray, List.set_cons_zero, List.set_cons_succ]
      refine takeE 10 (some 45) (.slice ad xs.length cx) rfl rfl (by kernel_rfl) (by kernel_rfl) (by kernel_rfl) (by kernel_rfl) (fun _ _ _ h => h) (by kernel_rfl) (fun w' hw' => by go_simp) s7 ?_
      simp only [Act.put, List.setIfInBounds_toArray, List.set_cons_zero, List.set_cons_succ]
      refine takeE 11 (some 46) (.string ⟨xs.toArray⟩) rfl rfl (by kernel_rfl) (by kernel_rfl) (by kernel_rfl) (by kernel_rfl) (fun _ _ _ h => h) (by kernel_rfl) (fun w' hw' => by have q := conv_in (HW.out.2.2.2.1.upd hw' (by simp)); go_simp) s7 ?_
      simp only [Act.put, List.setIfInBounds_toArray, List.set_cons_zero, List.set_cons_succ]
      refine oneE 8 (by kernel_rfl) ?_
      refine callE (some 43) rfl rfl (by kernel_rfl) (f := 8) (args := #[.pointer (some ⟨b, 0, none⟩)]) (by go_simp) (H7.out.2 _ s7) ?_
      rintro e w8 ⟨h8, k8, rfl, ho8, hu8⟩
      have s8 := s7.trans hu8
      refine ⟨_, rfl, fun _ => s8, ?_⟩
      simp only [Act.put, List.setIfInBounds_toArray, List.set_cons_zero, List.set_cons_succ]
      have q8 := conv_owns ho8
      refine oneE 9 (by kernel_rfl) ?_
      refine runE (some 44) w8 (.string ⟨xs.toArray⟩) rfl rfl (by kernel_rfl) (by go_simp) ?_
      refine ⟨fun _ => s8, ?_⟩
      simp only [Act.put, List.setIfInBounds_toArray, List.set_cons_zero, List.set_cons_succ]
      clear q8
      refine oneE 12 (by kernel_rfl) ?_
      refine runE (some 47) w8 (.bool true) rfl rfl (by kernel_rfl) (by go_simp) ?_
      refine ⟨fun _ => s8, ?_⟩
      simp only [Act.put, List.setIfInBounds_toArray, List.set_cons_zero, List.set_cons_succ]
      refine oneE 13 (by kernel_rfl) ?_
      refine runE (some 48) w8 (.bool true) rfl rfl (by kernel_rfl) (by go_simp) ?_
      refine ⟨fun _ => s8, ?_⟩
      simp only [Act.put, List.setIfInBounds_toArray, List.set_cons_zero, List.set_cons_succ]
      refine oneE 14 (by kernel_rfl) ?_
      refine runE (some 2) w8 (.bool true) rfl rfl (by kernel_rfl) (by go_simp) ?_
      refine ⟨fun _ => s8, ?_⟩
      simp only [Act.put, List.setIfInBounds_toArray, List.set_cons_zero, List.set_cons_succ]
      refine doneE (by kernel_rfl) ?_ _
      have HF := Lib.hid (HW.out.2.2.2.2.trans s8)
      clear s0 hu7 s7 ho8 hu8 s8
      go_wp2
      go_ret
      exact ⟨rfl, HF.out⟩
  · have hlI : decide (3000 < xs.length) = true := by simp; omega
    have hlJ : (3000 : Int) < (xs.length : Int) := by omega
    clear hl
    go_enter Tryz.func3, Tryz.ntmps3
    go_wp2_with (go_at_call 4; refine k4.mono ?_; clear k4; rintro e w1 ⟨rfl, hu1⟩)
    go_ret
    exact ⟨rfl, hu1⟩
end Go.Proofs.YtdbceafejbnebaaGreatDoor
