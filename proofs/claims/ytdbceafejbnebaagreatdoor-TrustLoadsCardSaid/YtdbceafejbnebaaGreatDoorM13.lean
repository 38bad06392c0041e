/- sha: turns. sha: a block. -/
import Derived.Test.YtdbceafejbnebaaGreatDoorM12
import Derived.StillTailTactics
import Derived.Deep.RegionHeld3
/-! sha: turns. -/
namespace Go.Proofs.YtdbceafejbnebaaGreatDoor
open Go Go.RowKit
/-- Block p is a wide machine: its state lies in hv, its words in kv. -/
def MachAt (w : World) (p : Nat) (hv kv : Value) : Prop :=
  w.heap[p]? = some (.cells #[hv, kv, .int .i64 8, .int .i64 28, .int .i64 34, .int .i64 39, .int .i64 14, .int .i64 18, .int .i64 41, .int .i64 1, .int .i64 8, .int .i64 7, .int .i64 19, .int .i64 61, .int .i64 6] 173 (0, 0))
def turnF (x : Int) (n : Nat) : Int := bits .or .u64 (x / 2 ^ n) (IntKind.u64.wrap (x * 2 ^ (64 - n)))
theorem turn122 {w : World} {p : Nat} (c2 : w.cell? ⟨p, 2, none⟩ = some (.int .i64 8)) (x : Int) (n : Nat) (hn : n < 64) :
    Calls Tryz.prog 122 #[.pointer (some ⟨p, 0, none⟩), .int .u64 x, .int .i64 n] w fun e w' => e = .returned (.int .u64 (turnF x n)) ∧ ∃ q, w' = w.drewN q := by
  have hnI : (n : Int) < 64 := by omega
  have hn0 : (0 : Int) ≤ (n : Int) := by omega
  have wk : IntKind.i64.wrap (64 - (n : Int)) = 64 - (n : Int) := IntWalk.i64_in _ (by omega)
  clear hn
  go_enter Tryz.func122, Tryz.ntmps122
  go_upto_region 1 with fail
  go_quiet (fail)
  go_wp2
  go_ret
  exact ⟨rfl, _, rfl⟩
def smallF (x : Int) (a b c : Nat) : Int := bits .xor .u64 (bits .xor .u64 (turnF x a) (turnF x b)) (x / 2 ^ c)
def bigF (x : Int) (a b c : Nat) : Int := bits .xor .u64 (bits .xor .u64 (turnF x a) (turnF x b)) (turnF x c)
set_option maxHeartbeats 1000000 in
theorem small115 {w : World} {p : Nat} (c2 : w.cell? ⟨p, 2, none⟩ = some (.int .i64 8)) (x : Int) (a b c : Nat) (ha : a < 64) (hb : b < 64) (hc : c < 64) :
    Calls Tryz.prog 115 #[.pointer (some ⟨p, 0, none⟩), .int .u64 x, .agg #[.int .i64 a, .int .i64 b, .int .i64 c]] w fun e w' => e = .returned (.int .u64 (smallF x a b c)) ∧ Upd [] w w' := by
  have hca : ∀ o n, ((w.alloc o).drewN n).cell? ⟨p, 2, none⟩ = some (.int .i64 8) := fun o n => Lib.cell?_alloc_some _ c2
  have ha0 : (0 : Int) ≤ (c : Int) := by omega
  have hc6 : (c : Int) < 64 := by omega
  have kt := fun o n (y : Nat) (hy : y < 64) => turn122 (hca o n) x y hy
  have HA := Lib.hid (show _ ∧ _ ∧ _ from ⟨ha, hb, hc⟩)
  clear ha hb hc c2 hca
  go_enter Tryz.func115, Tryz.ntmps115
  go_upto_region 1 with fail
  go_quiet (first | (go_at_call 122; refine Calls.quiet_of (kt _ _ _ (by first | exact HA.out.1 | exact HA.out.2.1))))
  go_wp2
  go_ret
  exact ⟨rfl, (Upd.new w _).drewN _⟩
set_option maxHeartbeats 1000000 in
theorem big116 {w : World} {p : Nat} (c2 : w.cell? ⟨p, 2, none⟩ = some (.int .i64 8)) (x : Int) (a b c : Nat) (ha : a < 64) (hb : b < 64) (hc : c < 64) :
    Calls Tryz.prog 116 #[.pointer (some ⟨p, 0, none⟩), .int .u64 x, .agg #[.int .i64 a, .int .i64 b, .int .i64 c]] w fun e w' => e = .returned (.int .u64 (bigF x a b c)) ∧ Upd [] w w' := by
  have hca : ∀ o n, ((w.alloc o).drewN n).cell? ⟨p, 2, none⟩ = some (.int .i64 8) := fun o n => Lib.cell?_alloc_some _ c2
  have kt := fun o n (y : Nat) (hy : y < 64) => turn122 (hca o n) x y hy
  have HA := Lib.hid (show _ ∧ _ ∧ _ from ⟨ha, hb, hc⟩)
  clear ha hb hc c2 hca
  go_enter Tryz.func116, Tryz.ntmps116
  go_upto_region 1 with fail
  go_quiet (first | (go_at_call 122; refine Calls.quiet_of (kt _ _ _ (by first | exact HA.out.1 | exact HA.out.2.1 | exact HA.out.2.2))))
  go_wp2
  go_ret
  exact ⟨rfl, (Upd.new w _).drewN _⟩
end Go.Proofs.YtdbceafejbnebaaGreatDoor
/-! sha: a block. -/
namespace Go.Proofs.YtdbceafejbnebaaGreatDoor
open Go Go.RowKit
def uV (x : Int) : Value := .int .u64 x
/-- Block g is a row of words. -/
def RowU (w : World) (g : Nat) (l : List Int) : Prop := w.heap[g]? = some (.cells (l.map uV).toArray 88 (0, 0))
theorem RowU.at {w : World} {g : Nat} {l : List Int} (h : RowU w g l) (i : Nat) (hi : i < l.length) : w.cell? ⟨g, i, none⟩ = some (.int .u64 l[i]) := by
  rw [cell_of_heap h]
  simp [uV, hi]
theorem RowU.free {w : World} {g : Nat} {l : List Int} (h : RowU w g l) (i : Nat) : w.frozen? ⟨g, i, none⟩ = false := free_of_heap h i
theorem RowU.set {w : World} {g : Nat} {l : List Int} (h : RowU w g l) (i : Nat) (x : Int) : RowU (w.setCell ⟨g, i, none⟩ (.int .u64 x)) g (l.set i x) ∧ Upd [g] w (w.setCell ⟨g, i, none⟩ (.int .u64 x)) := by
  refine ⟨?_, (Upd.refl [g] w).setCell (.inr (by simp)) _⟩
  unfold RowU
  rw [heap_setCell_same h]
  congr 2
  apply Array.ext'
  rw [Array.toList_setIfInBounds, List.toList_toArray, List.map_set]
  rfl
theorem RowU.upd {S : List Nat} {w w' : World} {g : Nat} {l : List Int} (h : RowU w g l) (hu : Upd S w w') (hS : g ∉ S) : RowU w' g l := hu.heap h hS
theorem Tryz.info88 : (Tryz.prog.info? 88).map (fun i => (i.zero, i.size, i.bytes)) = some (some (.int .u64 0), 1, 8) := by kernel_rfl
theorem made_row {w : World} {g n : Nat} {base : Nat} (h : w.ownsRow base 88 1 (.slice (some ⟨g, 0, none⟩) n n) n (madeCells (Value.int .u64 0).cells (n * 1)).toList) : RowU w g (List.replicate n 0) ∧ base ≤ g := by
  obtain ⟨_, ⟨q, _⟩ | ⟨g', cap', cur, hv, hb, hg, h1, h2, h3, h4⟩⟩ := h
  · cases q
  · cases hv
    refine ⟨?_, hb⟩
    have e : cur = ((List.replicate n (0 : Int)).map uV).toArray := by
      apply Array.ext'
      rw [List.toList_toArray]
      rw [List.take_of_length_le (by simp; omega)] at h4
      rw [h4]
      apply List.ext_getElem
      · simp [madeCells]
      · intro i hi1 hi2
        simp [madeCells, Value.cells, uV, Nat.mod_one]
    unfold RowU
    rw [← e]
    exact hg
/-- One byte more of the words. -/
def stepB (ws : List Int) (i : Nat) (b : Int) : List Int := ws.set (i / 8) (bits .or .u64 (IntKind.u64.wrap ((ws[i / 8]?.getD 0) * 256)) (IntKind.u64.wrap b))
theorem cell_same {w w' : World} {b : Nat} (h : w'.heap[b]? = w.heap[b]?) {o : Nat} : w'.cell? ⟨b, o, none⟩ = w.cell? ⟨b, o, none⟩ := by simp [World.cell?, h]
/-- The words, k bytes being in. -/
def wordsB (bs : List UInt8) : Nat → List Int
  | 0 => List.replicate 80 0
  | k + 1 => stepB (wordsB bs k) k ((bs[k]?.getD 0).toNat : Int)
theorem wordsB_len (bs : List UInt8) : ∀ k, (wordsB bs k).length = 80
  | 0 => by simp [wordsB]
  | k + 1 => by rw [wordsB, stepB, List.length_set, wordsB_len bs k]
/-- One word more, of those before. -/
def stepW (ws : List Int) (m : Nat) : Int := IntKind.u64.wrap (IntKind.u64.wrap (IntKind.u64.wrap (smallF (ws[14 + m]?.getD 0) 19 61 6 + ws[9 + m]?.getD 0) + smallF (ws[1 + m]?.getD 0) 1 8 7) + ws[m]?.getD 0)
def moreW (ws : List Int) : Nat → List Int
  | 0 => ws
  | m + 1 => (moreW ws m).set (16 + m) (stepW (moreW ws m) m)
theorem moreW_len (ws : List Int) : ∀ m, (moreW ws m).length = ws.length
  | 0 => rfl
  | m + 1 => by rw [moreW, List.length_set, moreW_len ws m]
theorem RowU.put {w : World} {g : Nat} {l : List Int} (h : RowU w g l) (i : Nat) (x : Int) (j : Nat) (hj : j < l.length) (hij : j ≠ i) : (w.setCell ⟨g, i, none⟩ (.int .u64 x)).cell? ⟨g, j, none⟩ = some (.int .u64 l[j]) := by
  have q := (h.set i x).1.at j (by rw [List.length_set]; exact hj)
  rw [List.getElem_set_ne (Ne.symm hij)] at q
  exact q
theorem Tryz.size88 : (Tryz.prog.info? 88).map (·.size) = some 1 := by kernel_rfl
theorem Tryz.size186 : (Tryz.prog.info? 186).map (·.size) = some 8 := by kernel_rfl
def z8 : List Int := [0, 0, 0, 0, 0, 0, 0, 0]
def z8' : List Value := z8.map uV
def RowX (w : World) (g : Nat) (l : List Int) : Prop := w.heap[g]? = some (.cells (l.map uV).toArray 186 (0, 0))
/-- One turn of the state. -/
def stepP (x4 x5 x6 x7 k w : Int) : Int := IntKind.u64.wrap (IntKind.u64.wrap (IntKind.u64.wrap (IntKind.u64.wrap (x7 + bigF x4 14 18 41) + bits .xor .u64 (bits .and .u64 x4 x5) (bits .and .u64 (bits .xor .u64 IntKind.u64.max x4) x6)) + k) + w)
def stepQ (x0 x1 x2 : Int) : Int := IntKind.u64.wrap (bigF x0 28 34 39 + bits .xor .u64 (bits .xor .u64 (bits .and .u64 x0 x1) (bits .and .u64 x0 x2)) (bits .and .u64 x1 x2))
def stepX (xs : List Int) (k w : Int) : List Int :=
  let x := fun i => xs[i]?.getD 0
  let p := stepP (x 4) (x 5) (x 6) (x 7) k w
  [IntKind.u64.wrap (p + stepQ (x 0) (x 1) (x 2)), x 0, x 1, x 2, IntKind.u64.wrap (x 3 + p), x 4, x 5, x 6]
def turnX (ks ws hs : List Int) : Nat → List Int
  | 0 => hs
  | k + 1 => stepX (turnX ks ws hs k) (ks[k]?.getD 0) (ws[k]?.getD 0)
theorem turnX_len {ks ws hs : List Int} (h : hs.length = 8) : ∀ k, (turnX ks ws hs k).length = 8
  | 0 => h
  | _ + 1 => rfl
theorem list8 {α : Type} {l : List α} (h : l.length = 8) : ∃ a b c d e f g i, l = [a, b, c, d, e, f, g, i] := by
  match l, h with
  | [a, b, c, d, e, f, g, i], _ => exact ⟨a, b, c, d, e, f, g, i, rfl⟩
def TurnS (p gx gw k : Nat) (x0 x1 x2 x3 x4 x5 x6 x7 wk : Int) (w' : World) : Prop :=
  w'.cell? ⟨gx, 0, none⟩ = some (.int .u64 x0) ∧ w'.cell? ⟨gx, 1, none⟩ = some (.int .u64 x1) ∧ w'.cell? ⟨gx, 2, none⟩ = some (.int .u64 x2) ∧ w'.cell? ⟨gx, 3, none⟩ = some (.int .u64 x3) ∧ w'.cell? ⟨gx, 4, none⟩ = some (.int .u64 x4) ∧ w'.cell? ⟨gx, 5, none⟩ = some (.int .u64 x5) ∧ w'.cell? ⟨gx, 6, none⟩ = some (.int .u64 x6) ∧ w'.cell? ⟨gx, 7, none⟩ = some (.int .u64 x7) ∧
    w'.cell? ⟨p, 3, none⟩ = some (.int .i64 28) ∧ w'.cell? ⟨p, 4, none⟩ = some (.int .i64 34) ∧ w'.cell? ⟨p, 5, none⟩ = some (.int .i64 39) ∧ w'.cell? ⟨p, 6, none⟩ = some (.int .i64 14) ∧ w'.cell? ⟨p, 7, none⟩ = some (.int .i64 18) ∧ w'.cell? ⟨p, 8, none⟩ = some (.int .i64 41) ∧ w'.cell? ⟨gw, k, none⟩ = some (.int .u64 wk)
theorem free8 {w : World} {g : Nat} {cs : Array Value} {t : TypeId} (h : w.heap[g]? = some (.cells cs t (0, 0))) :
    w.frozen? ⟨g, 0, none⟩ = false ∧ w.frozen? ⟨g, 1, none⟩ = false ∧ w.frozen? ⟨g, 2, none⟩ = false ∧ w.frozen? ⟨g, 3, none⟩ = false ∧ w.frozen? ⟨g, 4, none⟩ = false ∧ w.frozen? ⟨g, 5, none⟩ = false ∧ w.frozen? ⟨g, 6, none⟩ = false ∧ w.frozen? ⟨g, 7, none⟩ = false :=
  ⟨free_of_heap h 0, free_of_heap h 1, free_of_heap h 2, free_of_heap h 3, free_of_heap h 4, free_of_heap h 5, free_of_heap h 6, free_of_heap h 7⟩
theorem set8 {w : World} {g : Nat} {a0 a1 a2 a3 a4 a5 a6 a7 : Value} {t : TypeId} (h : w.heap[g]? = some (.cells #[a0, a1, a2, a3, a4, a5, a6, a7] t (0, 0))) (b0 b1 b2 b3 b4 b5 b6 b7 : Value) :
    ((((((((w.setCell ⟨g, 0, none⟩ b0).setCell ⟨g, 1, none⟩ b1).setCell ⟨g, 2, none⟩ b2).setCell ⟨g, 3, none⟩ b3).setCell ⟨g, 4, none⟩ b4).setCell ⟨g, 5, none⟩ b5).setCell ⟨g, 6, none⟩ b6).setCell ⟨g, 7, none⟩ b7).heap[g]? = some (.cells #[b0, b1, b2, b3, b4, b5, b6, b7] t (0, 0)) ∧
      Upd [g] w ((((((((w.setCell ⟨g, 0, none⟩ b0).setCell ⟨g, 1, none⟩ b1).setCell ⟨g, 2, none⟩ b2).setCell ⟨g, 3, none⟩ b3).setCell ⟨g, 4, none⟩ b4).setCell ⟨g, 5, none⟩ b5).setCell ⟨g, 6, none⟩ b6).setCell ⟨g, 7, none⟩ b7) := by
  have h0 := heap_setCell_same h 0 b0
  simp only [List.setIfInBounds_toArray, List.set_cons_zero] at h0
  have h1 := heap_setCell_same h0 1 b1
  simp only [List.setIfInBounds_toArray, List.set_cons_zero, List.set_cons_succ] at h1
  have h2 := heap_setCell_same h1 2 b2
  simp only [List.setIfInBounds_toArray, List.set_cons_zero, List.set_cons_succ] at h2
  have h3 := heap_setCell_same h2 3 b3
  simp only [List.setIfInBounds_toArray, List.set_cons_zero, List.set_cons_succ] at h3
  have h4 := heap_setCell_same h3 4 b4
  simp only [List.setIfInBounds_toArray, List.set_cons_zero, List.set_cons_succ] at h4
  have h5 := heap_setCell_same h4 5 b5
  simp only [List.setIfInBounds_toArray, List.set_cons_zero, List.set_cons_succ] at h5
  have h6 := heap_setCell_same h5 6 b6
  simp only [List.setIfInBounds_toArray, List.set_cons_zero, List.set_cons_succ] at h6
  have h7 := heap_setCell_same h6 7 b7
  simp only [List.setIfInBounds_toArray, List.set_cons_zero, List.set_cons_succ] at h7
  exact ⟨h7, ((((((((Upd.refl [g] w).setCell (.inr (by simp)) _).setCell (.inr (by simp)) _).setCell (.inr (by simp)) _).setCell (.inr (by simp)) _).setCell (.inr (by simp)) _).setCell (.inr (by simp)) _).setCell (.inr (by simp)) _).setCell (.inr (by simp)) _⟩
def addX (hs xs : List Int) : Nat → List Int
  | 0 => hs
  | i + 1 => (addX hs xs i).set i (IntKind.u64.wrap ((addX hs xs i)[i]?.getD 0 + xs[i]?.getD 0))
theorem addX_len (hs xs : List Int) : ∀ i, (addX hs xs i).length = hs.length
  | 0 => rfl
  | i + 1 => by rw [addX, List.length_set, addX_len hs xs i]
/-- The state behind a block. -/
def blockF (hs ks : List Int) (bs : List UInt8) : List Int := addX hs (turnX ks (moreW (wordsB bs 128) 64) hs 80) 8
/-- What the words' turn reads. -/
def WordS (p gw t2 t7 t15 m : Nat) (x2 x7 x15 x16 : Int) (w' : World) : Prop :=
  w'.cell? ⟨p, 9, none⟩ = some (.int .i64 1) ∧ w'.cell? ⟨p, 10, none⟩ = some (.int .i64 8) ∧ w'.cell? ⟨p, 11, none⟩ = some (.int .i64 7) ∧ w'.cell? ⟨p, 12, none⟩ = some (.int .i64 19) ∧ w'.cell? ⟨p, 13, none⟩ = some (.int .i64 61) ∧ w'.cell? ⟨p, 14, none⟩ = some (.int .i64 6) ∧
                w'.cell? ⟨gw, t2, none⟩ = some (.int .u64 x2) ∧ w'.cell? ⟨gw, t7, none⟩ = some (.int .u64 x7) ∧ w'.cell? ⟨gw, t15, none⟩ = some (.int .u64 x15) ∧ w'.cell? ⟨gw, m, none⟩ = some (.int .u64 x16)
set_option maxHeartbeats 4000000 in
set_option maxRecDepth 100000 in
theorem block103 {w : World} {p gh gk : Nat} {hs ks : List Int} {ch ck : Nat} (hm : MachAt w p (.slice (some ⟨gh, 0, none⟩) 8 ch) (.slice (some ⟨gk, 0, none⟩) 80 ck)) (hh : RowU w gh hs) (hk : RowU w gk ks) (h8 : hs.length = 8) (k80 : ks.length = 80)
    (gb ob cap : Nat) (bs : List UInt8) (hb : Shows w ⟨gb, ob, none⟩ bs) (hgb : gb < w.heap.size) (hbl : bs.length = 128) :
    Calls Tryz.prog 103 #[.pointer (some ⟨p, 0, none⟩), .slice (some ⟨gb, ob, none⟩) 128 cap] w fun e w' => e = .returned (.tuple #[]) ∧ Upd [gh] w w' ∧ RowU w' gh (blockF hs ks bs) := by
  obtain ⟨i0, hi, hz0, hz1, hz2⟩ := info_parts Tryz.info88
  have c1 : w.cell? ⟨p, 1, none⟩ = some (.slice (some ⟨gk, 0, none⟩) 80 ck) := cell_of_heap hm 1
  have HM := Lib.hid (show _ ∧ _ ∧ _ ∧ _ ∧ _ ∧ _ ∧ _ ∧ _ from ⟨hm, hh, hk, h8, k80, hb, hbl, hgb⟩)
  clear hm hh hk h8 k80 hb hbl hgb
  go_enter Tryz.func103, Tryz.ntmps103
  go_wp2_with (at_make; refine wpList_make_full _ rfl _ _ 167 rfl w.heap.size 88 i0 _ 1 Tryz.underlying167 hi hz0 hz1 _ _ _ _ 80 rfl rfl rfl rfl (by rw [hz2]; decide) (by decide) (Nat.le_refl _) ?_; intro w1 hown1 hgrow1)
  have hmade := made_row hown1
  have hu1 : Upd [] w w1 := ⟨hgrow1.os, hgrow1.tape, hgrow1.output, hgrow1.size, fun k hk _ => hgrow1.block k hk (by simp)⟩
  obtain ⟨gw, hgw⟩ : ∃ gw, gw = w.heap.size := ⟨_, rfl⟩
  rw [← hgw] at hmade ⊢
  have HG := Lib.hid (show _ ∧ _ ∧ _ from ⟨hgw, hmade.1, hu1⟩)
  clear hown1 hgrow1 hmade hu1 hgw
  go_loopw [25] (fun i wr => ∃ k : Nat, i = .int .i64 (k : Int) ∧ k ≤ 128 ∧ Hid (RowU wr gw (wordsB bs k) ∧ Upd [gw] w1 wr)) (fun i _ => 128 - (intOf i).toNat)
  case atStart => exact ⟨0, rfl, by omega, Lib.hid ⟨HG.out.2.1, Upd.refl _ _⟩⟩
  case round =>
    obtain ⟨k, rfl, hk, hR⟩ := hrel
    by_cases hlt : k < 128
    · have hltI : (k : Int) < 128 := by omega
      go_upto_region 4 with fail
      obtain ⟨r1, r2⟩ := hR.out
      obtain ⟨q, hq⟩ : ∃ q, q = k / 8 := ⟨_, rfl⟩
      have hdk : q < (wordsB bs k).length := by rw [wordsB_len]; omega
      obtain ⟨hgw, _, hu1⟩ := HG.out
      have hpw : p ≠ gw := by have := lt_of_heap HM.out.1; omega
      have hbw : gb ≠ gw := by have := HM.out.2.2.2.2.2.2.2; omega
      have hu : Upd [gw] w wr := (hu1.mono (by simp)).trans' r2 (by simp)
      have d2 : wr.cell? ⟨p, 2, none⟩ = some (.int .i64 8) := cell_of_heap (hu.heap HM.out.1 (by simpa using hpw)) 2
      have hblk : k < bs.length := by rw [HM.out.2.2.2.2.2.2.1]; exact hlt
      have dw := r1.at q hdk
      have fw := r1.free q
      have db : wr.cell? ⟨gb, ob + k, none⟩ = some (.int .u8 (bs[k].toNat : Int)) := by
        have q := HM.out.2.2.2.2.2.1 k (byteV bs[k]) (by simp [hblk])
        rw [Addr.add_lit] at q
        rw [cell_same (hu.block gb HM.out.2.2.2.2.2.2.2 (by simpa using hbw))]
        exact q
      have q8 : (k : Int) / 8 = (q : Int) := by omega
      have q9 : (q : Int) < 80 := by omega
      have q0 : (0 : Int) ≤ (q : Int) := by omega
      have q7 : (k : Int).tdiv 8 = (q : Int) := by rw [Int.tdiv_eq_ediv_of_nonneg (by omega)]; exact q8
      have q6 : IntKind.i64.wrap (q : Int) = (q : Int) := IntWalk.i64_in _ (by omega)
      obtain ⟨x0, hx0⟩ : ∃ x0, x0 = (wordsB bs k)[q] := ⟨_, rfl⟩
      obtain ⟨b0, hb0⟩ : ∃ b0, b0 = bs[k] := ⟨_, rfl⟩
      rw [← hx0] at dw
      rw [← hb0] at db
      have HX0 := Lib.hid (show _ ∧ _ ∧ _ from ⟨hq, hx0, hb0⟩)
      clear r1 r2 hu hu1 hq hx0 hb0 hgw
      go_still_tail 24, (by kernel_rfl)
      change wpList _ _ _ _ _ wr.drew
      go_wp2
      go_roundw
      case rel =>
        obtain ⟨e1, e2, e3⟩ := HX0.out
        obtain ⟨r1, r2⟩ := hR.out
        refine ⟨k + 1, by simp, by omega, Lib.hid ⟨?_, ?_⟩⟩
        · have h := (r1.set q (bits BinOp.or IntKind.u64 (IntKind.u64.wrap (x0 * 256)) (IntKind.u64.wrap ↑b0.toNat))).1
          have hq : q < (wordsB bs k).length := by rw [wordsB_len]; omega
          have hkb : k < bs.length := by rw [HM.out.2.2.2.2.2.2.1]; exact hlt
          rw [wordsB, stepB, ← e1, List.getElem?_eq_getElem hq, List.getElem?_eq_getElem hkb, Option.getD_some, Option.getD_some, ← e2, ← e3]
          exact h
        · exact (r2.trans (r1.set q _).2).drew
      case measure => simp [intOf]; omega
    · have hkI : (k : Int) = 128 := by omega
      have hkN : k = 128 := by omega
      rw [hkN] at hR
      rw [hkI]
      clear hkI hkN hk hlt
      obtain ⟨W0, hW0⟩ : ∃ W0, W0 = wordsB bs 128 := ⟨_, rfl⟩
      have HW0 := Lib.hid (show _ ∧ W0.length = 80 from ⟨hW0, by rw [hW0, wordsB_len]⟩)
      rw [← hW0] at hR
      clear hW0
      go_wp2
      go_loopw [6] (fun i wr2 => ∃ m : Nat, i = .int .i64 (16 + (m : Int)) ∧ m ≤ 64 ∧ Hid (RowU wr2 gw (moreW W0 m) ∧ Upd [gw] w1 wr2)) (fun i _ => 80 - (intOf i).toNat)
      case atStart => exact ⟨0, by simp, by omega, hR⟩
      case round =>
        obtain ⟨wq, hwq⟩ : ∃ wq, wq = wr := ⟨_, rfl⟩
        rw [← hwq] at hrel ⊢
        clear hwq
        obtain ⟨m, rfl, hm, hR2⟩ := hrel
        by_cases hlt : m < 64
        · have hltI : 16 + (m : Int) < 80 := by omega
          obtain ⟨r1, r2⟩ := hR2.out
          have hl80 : (moreW W0 m).length = 80 := by rw [moreW_len]; exact HW0.out.2
          obtain ⟨hgw, _, hu1⟩ := HG.out
          have hpw : p ≠ gw := by have := lt_of_heap HM.out.1; omega
          have hu : Upd [gw] w wq := (hu1.mono (by simp)).trans' r2 (by simp)
          have hpq : MachAt wq p _ _ := hu.heap HM.out.1 (by simpa using hpw)
          obtain ⟨t2, e2⟩ : ∃ t2, t2 = 14 + m := ⟨_, rfl⟩
          obtain ⟨t7, e7⟩ : ∃ t7, t7 = 9 + m := ⟨_, rfl⟩
          obtain ⟨t15, e15⟩ : ∃ t15, t15 = 1 + m := ⟨_, rfl⟩
          obtain ⟨t, et⟩ : ∃ t, t = 16 + m := ⟨_, rfl⟩
          obtain ⟨x2, hx2⟩ : ∃ x2, x2 = (moreW W0 m)[t2]?.getD 0 := ⟨_, rfl⟩
          obtain ⟨x7, hx7⟩ : ∃ x7, x7 = (moreW W0 m)[t7]?.getD 0 := ⟨_, rfl⟩
          obtain ⟨x15, hx15⟩ : ∃ x15, x15 = (moreW W0 m)[t15]?.getD 0 := ⟨_, rfl⟩
          obtain ⟨x16, hx16⟩ : ∃ x16, x16 = (moreW W0 m)[m]?.getD 0 := ⟨_, rfl⟩
          have i2 : IntKind.i64.wrap (16 + (m : Int) - 2) = (t2 : Int) := by rw [IntWalk.i64_in _ (by omega)]; omega
          have i7 : IntKind.i64.wrap (16 + (m : Int) - 7) = (t7 : Int) := by rw [IntWalk.i64_in _ (by omega)]; omega
          have i15 : IntKind.i64.wrap (16 + (m : Int) - 15) = (t15 : Int) := by rw [IntWalk.i64_in _ (by omega)]; omega
          have i16 : IntKind.i64.wrap (16 + (m : Int) - 16) = (m : Int) := by rw [IntWalk.i64_in _ (by omega)]; omega
          have it : 16 + (m : Int) = (t : Int) := by omega
          have b2 : (0 : Int) ≤ t2 ∧ (t2 : Int) < 80 := by omega
          have b7 : (0 : Int) ≤ t7 ∧ (t7 : Int) < 80 := by omega
          have b15 : (0 : Int) ≤ t15 ∧ (t15 : Int) < 80 := by omega
          have b16 : (0 : Int) ≤ m ∧ (m : Int) < 80 := by omega
          have bt : (0 : Int) ≤ t ∧ (t : Int) < 80 := by omega
          rw [it] at i2 i7 i15 i16 hltI ⊢
          have hS : ∀ w', (w'.heap[p]? = wq.heap[p]?) → (∀ j, j ≠ t → w'.cell? ⟨gw, j, none⟩ = wq.cell? ⟨gw, j, none⟩) →
              WordS p gw t2 t7 t15 m x2 x7 x15 x16 w' := by
            intro w' hp hc
            have hp' := hp.trans hpq
            refine ⟨cell_of_heap hp' 9, cell_of_heap hp' 10, cell_of_heap hp' 11, cell_of_heap hp' 12, cell_of_heap hp' 13, cell_of_heap hp' 14, ?_, ?_, ?_, ?_⟩
            · rw [hc t2 (by omega), hx2, List.getElem?_eq_getElem (by omega)]; exact r1.at t2 (by omega)
            · rw [hc t7 (by omega), hx7, List.getElem?_eq_getElem (by omega)]; exact r1.at t7 (by omega)
            · rw [hc t15 (by omega), hx15, List.getElem?_eq_getElem (by omega)]; exact r1.at t15 (by omega)
            · rw [hc m (by omega), hx16, List.getElem?_eq_getElem (by omega)]; exact r1.at m (by omega)
          have hKc : ∀ w', Upd [] wq w' → WordS p gw t2 t7 t15 m x2 x7 x15 x16 w' := fun w' hu' => hS w' (hu'.block p (lt_of_heap hpq) (by simp)) (fun j _ => cell_same (hu'.block gw (lt_of_heap r1) (by simp)))
          have hKs : ∀ w' X, Upd [] wq w' → WordS p gw t2 t7 t15 m x2 x7 x15 x16 (w'.setCell ⟨gw, t, none⟩ (.int .u64 X)) := fun w' X hu' => by
            have q : RowU w' gw _ := hu'.heap r1 (by simp)
            have q2 := q.set t X
            exact hS (w'.setCell ⟨gw, t, none⟩ (.int .u64 X)) ((q2.2.block p (Nat.lt_of_lt_of_le (lt_of_heap hpq) hu'.size) (by simpa using hpw)).trans (hu'.block p (lt_of_heap hpq) (by simp)))
              (fun j hj => by
                by_cases hjl : j < (moreW W0 m).length
                · rw [q.put t X j hjl hj, r1.at j hjl]
                · rw [cell_of_heap q2.1, cell_of_heap r1]
                  simp only [List.getElem?_toArray, List.getElem?_map]
                  rw [List.getElem?_eq_none (by rw [List.length_set]; omega), List.getElem?_eq_none (by omega)])
          obtain ⟨xt, hxt⟩ : ∃ xt, xt = (moreW W0 m)[t]?.getD 0 := ⟨_, rfl⟩
          have hT : ∀ w', Upd [] wq w' → w'.cell? ⟨gw, t, none⟩ = some (.int .u64 xt) ∧ w'.frozen? ⟨gw, t, none⟩ = false := by
            intro w' hu'
            have q : RowU w' gw _ := hu'.heap r1 (by simp)
            rw [hxt, List.getElem?_eq_getElem (by omega)]
            exact ⟨q.at t (by omega), q.free t⟩
          have HT := Lib.hid hT
          have hcs : ∀ w', Upd [] wq w' → ∀ (x a b c : Int), (0 ≤ a ∧ a < 64) ∧ (0 ≤ b ∧ b < 64) ∧ (0 ≤ c ∧ c < 64) → Calls Tryz.prog 115 #[.pointer (some ⟨p, 0, none⟩), .int .u64 x, .agg #[.int .i64 a, .int .i64 b, .int .i64 c]] w' fun e w2 => e = .returned (.int .u64 (smallF x a.toNat b.toNat c.toNat)) ∧ Upd [] w' w2 := by
            intro w' hu' x a b c h
            have q := small115 (cell_of_heap (hu'.heap hpq (by simp)) 2) x a.toNat b.toNat c.toNat (by omega) (by omega) (by omega)
            rw [Int.toNat_of_nonneg h.1.1, Int.toNat_of_nonneg h.2.1.1, Int.toNat_of_nonneg h.2.2.1] at q
            exact q
          have hq0 : Upd [] wq wq.drew := (Upd.refl [] wq).drew
          have HKC := Lib.hid hKc
          have HKS := Lib.hid hKs
          have HCS := Lib.hid hcs
          have HE := Lib.hid (show _ ∧ _ ∧ _ ∧ _ ∧ _ ∧ _ ∧ _ ∧ _ from ⟨e2, e7, e15, et, hx2, hx7, hx15, hx16⟩)
          clear hT hxt r1 r2 hl80 hgw hu1 hpw hu hpq hS hKc hKs hcs e2 e7 e15 et hx2 hx7 hx15 hx16
          -- part 2
          go_upto_region 9 with fail
          go_region_held3 (fun w' => w'.cell? ⟨p, 9, none⟩ = some (.int .i64 1) ∧ w'.cell? ⟨p, 10, none⟩ = some (.int .i64 8) ∧ w'.cell? ⟨p, 11, none⟩ = some (.int .i64 7) ∧ w'.cell? ⟨p, 12, none⟩ = some (.int .i64 19) ∧ w'.cell? ⟨p, 13, none⟩ = some (.int .i64 61) ∧ w'.cell? ⟨p, 14, none⟩ = some (.int .i64 6) ∧
                w'.cell? ⟨gw, t2, none⟩ = some (.int .u64 x2) ∧ w'.cell? ⟨gw, t7, none⟩ = some (.int .u64 x7) ∧ w'.cell? ⟨gw, t15, none⟩ = some (.int .u64 x15) ∧ w'.cell? ⟨gw, m, none⟩ = some (.int .u64 x16)) (first | exact HKC.out _ (by assumption) | exact HKS.out _ _ (by assumption))
            (first | (go_at_call 115; refine (HCS.out _ (by assumption) _ _ _ _ (by decide)).mono ?_; rintro e wn ⟨rfl, hun⟩; have hun2 := Upd.trans (by assumption) hun; obtain ⟨hct, hft⟩ := HT.out _ hun2))
          have z1 : IntKind.i64.wrap ((t : Int) + 1) = (t : Int) + 1 := IntWalk.i64_in _ (by omega)
          go_wp2
          go_roundw
          case rel =>
            obtain ⟨e2, e7, e15, et, hx2, hx7, hx15, hx16⟩ := HE.out
            obtain ⟨r1, r2⟩ := hR2.out
            have q : RowU wn gw _ := hun2.heap r1 (by simp)
            refine ⟨m + 1, by congr 1; omega, by omega, Lib.hid ⟨?_, ?_⟩⟩
            · have h := (q.set t (IntKind.u64.wrap (IntKind.u64.wrap (IntKind.u64.wrap (smallF x2 19 61 6 + x7) + smallF x15 1 8 7) + x16))).1
              rw [moreW, stepW, ← e2, ← e7, ← e15, ← et, ← hx2, ← hx7, ← hx15, ← hx16]
              exact h
            · exact (r2.trans (hun2.mono (by simp))).trans (q.set t _).2
          case measure => simp [intOf]; omega
        · have hmI : (m : Int) = 64 := by omega
          have hmN : m = 64 := by omega
          rw [hmN] at hR2
          rw [hmI]
          clear hmI hmN hm hlt
          go_upto_region 11 with fail
          obtain ⟨W1, hW1⟩ : ∃ W1, W1 = moreW W0 64 := ⟨_, rfl⟩
          have HW1 := Lib.hid (show _ ∧ W1.length = 80 from ⟨hW1, by rw [hW1, moreW_len]; exact HW0.out.2⟩)
          rw [← hW1] at hR2
          clear hW1
          have ha : (wq.alloc (.cells (z8.map uV).toArray 186)).heap[wq.heap.size]? = some (.cells (z8.map uV).toArray 186 (0, 0)) := heap_alloc_new wq _
          have hua : Upd [] wq (wq.alloc (.cells (z8.map uV).toArray 186)) := Upd.new wq _
          obtain ⟨gx, hgx⟩ : ∃ gx, gx = wq.heap.size := ⟨_, rfl⟩
          change Code.wp _ _ _ _ (wq.alloc (.cells (z8.map uV).toArray 186))
          generalize wq.alloc (.cells (z8.map uV).toArray 186) = w2 at ha hua ⊢
          rw [← hgx] at ha ⊢
          obtain ⟨r1, r2⟩ := hR2.out
          obtain ⟨hgw, _, hu1⟩ := HG.out
          have hpw : p ≠ gw := by have := lt_of_heap HM.out.1; omega
          have hhw : gh ≠ gw := by have := lt_of_heap HM.out.2.1; omega
          have hkw : gk ≠ gw := by have := lt_of_heap HM.out.2.2.1; omega
          have hu : Upd [gw] w w2 := ((hu1.mono (by simp)).trans' r2 (by simp)).trans (hua.mono (by simp))
          have hp2 : MachAt w2 p _ _ := hu.heap HM.out.1 (by simpa using hpw)
          have hh2 : RowU w2 gh hs := hu.heap HM.out.2.1 (by simpa using hhw)
          have hgxs : w.heap.size ≤ gx := by rw [hgx]; exact ((hu1.mono (by simp)).trans' r2 (by simp) : Upd [gw] w wq).size
          have d0 : w2.cell? ⟨p, 0, none⟩ = some (.slice (some ⟨gh, 0, none⟩) 8 ch) := cell_of_heap hp2 0
          obtain ⟨hc, hhc⟩ : ∃ hc, hc = hs.map uV := ⟨_, rfl⟩
          have HC := Lib.hid (show _ ∧ hc.length = 8 ∧ ∀ v ∈ hc, v.oneCell' = true from ⟨hhc, by rw [hhc, List.length_map]; exact HM.out.2.2.2.1, by rw [hhc]; intro v hv; obtain ⟨x, _, rfl⟩ := List.mem_map.1 hv; rfl⟩)
          have HH := Lib.hid (show w2.heap[gh]? = some (.cells hc.toArray 88 (0, 0)) by rw [hhc]; exact hh2)
          have HA := Lib.hid (show _ ∧ _ ∧ _ ∧ _ ∧ _ from ⟨ha, hua, hu, hgx, hgxs⟩)
          clear ha hua hu hgx hgxs r1 r2 hgw hu1 hpw hhw hkw hp2 hh2 hhc
          go_still_tail 5, (by kernel_rfl)
          change wpList _ _ _ _ _ w2.drew
          refine wpList_copy_splice rfl _ _ _ _ rfl 88 Tryz.underlying167 Tryz.size88 _ _ _ _ _ _ rfl rfl gx 0 z8' 186 HA.out.1 hc (by rw [HC.out.2.1]; rfl) (fun _ => ⟨rfl, ⟨gh, 0, none⟩, rfl, (fun j u hj => by rw [Addr.add_lit, Nat.zero_add]; show w2.cell? _ = _; rw [cell_of_heap HH.out]; simpa using hj)⟩) (by rw [HC.out.2.1]; decide) HC.out.2.2 gx _ (Below.refl _ _) (Nat.le_refl _) ?_
          intro w3 hw3 hbel
          have hsp : splice z8' 0 hc = hc := by
            have : hc.length = 8 := HC.out.2.1
            simp [splice, z8', z8, this]
          have hx3 : RowX w3 gx hs := by
            have q := hw3.out
            rw [hsp, HC.out.1] at q
            exact q
          obtain ⟨q1, q2, q3, q4, q5⟩ := HA.out
          have hu3 : Upd [gw] w w3 := (q3.drew).below' (hbel.mono q5)
          obtain ⟨r1, r2⟩ := hR2.out
          obtain ⟨hgw, _, hu1⟩ := HG.out
          have hpw : p ≠ gw := by have := lt_of_heap HM.out.1; omega
          have hhw : gh ≠ gw := by have := lt_of_heap HM.out.2.1; omega
          have hkw : gk ≠ gw := by have := lt_of_heap HM.out.2.2.1; omega
          have hxw : gw < gx := by rw [q4]; exact lt_of_heap r1
          have hpx : p ≠ gx := by have := lt_of_heap HM.out.1; omega
          have hhx : gh ≠ gx := by have := lt_of_heap HM.out.2.1; omega
          have hkx : gk ≠ gx := by have := lt_of_heap HM.out.2.2.1; omega
          have hp3 : MachAt w3 p _ _ := hu3.heap HM.out.1 (by simpa using hpw)
          have hh3 : RowU w3 gh hs := hu3.heap HM.out.2.1 (by simpa using hhw)
          have hk3 : RowU w3 gk ks := hu3.heap HM.out.2.2.1 (by simpa using hkw)
          have hw3' : RowU w3 gw W1 := (hbel.block gw hxw).trans (q2.heap r1 (by simp))
          have d1 : w3.cell? ⟨p, 1, none⟩ = some (.slice (some ⟨gk, 0, none⟩) 80 ck) := cell_of_heap hp3 1
          have H3 := Lib.hid (show _ ∧ _ ∧ _ ∧ _ ∧ _ ∧ _ from ⟨hx3, hp3, hh3, hk3, hw3', hu3⟩)
          have HN := Lib.hid (show _ ∧ _ ∧ _ ∧ _ ∧ _ ∧ _ from ⟨hpx, hhx, hkx, hxw, hgw, q5⟩)
          clear hw3 hbel hsp hx3 q1 q2 q3 q4 q5 r1 r2 hgw hu1 hpw hhw hkw hxw hpx hhx hkx hp3 hh3 hk3 hw3' hu3
          go_simp
          go_wp2
          go_loopw [110] (fun i wr => ∃ k : Nat, i = .int .i64 (k : Int) ∧ k ≤ 80 ∧ Hid (RowX wr gx (turnX ks W1 hs k) ∧ Upd [gx] w3 wr)) (fun i _ => 80 - (intOf i).toNat)
          case atStart => exact ⟨0, rfl, by omega, Lib.hid ⟨H3.out.1, Upd.refl _ _⟩⟩
          case round =>
            obtain ⟨wz, hwz⟩ : ∃ wz, wz = wr := ⟨_, rfl⟩
            rw [← hwz] at hrel ⊢
            clear hwz
            obtain ⟨k, rfl, hk, hR3⟩ := hrel
            by_cases hlt : k < 80
            · have hltI : (k : Int) < 80 := by omega
              have hk0 : (0 : Int) ≤ (k : Int) := by omega
              obtain ⟨r1, r2⟩ := hR3.out
              have hl8 : (turnX ks W1 hs k).length = 8 := turnX_len HM.out.2.2.2.1 k
              obtain ⟨x0, x1, x2, x3, x4, x5, x6, x7, he⟩ := list8 hl8
              rw [he] at r1
              obtain ⟨hx3, hp3, hh3, hk3, hw3, hu3⟩ := H3.out
              obtain ⟨hpx, hhx, hkx, hxw, hgw, q5⟩ := HN.out
              have hpz : MachAt wz p _ _ := r2.heap hp3 (by simpa using hpx)
              have hkz : RowU wz gk ks := r2.heap hk3 (by simpa using hkx)
              have hwz : RowU wz gw W1 := r2.heap hw3 (by simp; omega)
              obtain ⟨kk, hkk⟩ : ∃ kk, kk = ks[k]?.getD 0 := ⟨_, rfl⟩
              obtain ⟨wk, hwk⟩ : ∃ wk, wk = W1[k]?.getD 0 := ⟨_, rfl⟩
              have dk : wz.cell? ⟨gk, k, none⟩ = some (.int .u64 kk) := by rw [hkk, List.getElem?_eq_getElem (by rw [HM.out.2.2.2.2.1]; exact hlt)]; exact hkz.at k (by rw [HM.out.2.2.2.2.1]; exact hlt)
              have hkeep : ∀ w', Upd [] wz w' → TurnS p gx gw k x0 x1 x2 x3 x4 x5 x6 x7 wk w' := by
                intro w' hu'
                have hp' : MachAt w' p _ _ := hu'.heap hpz (by simp)
                have hx' : w'.heap[gx]? = _ := hu'.heap r1 (by simp)
                have hw' : RowU w' gw W1 := hu'.heap hwz (by simp)
                refine ⟨cell_of_heap hx' 0, cell_of_heap hx' 1, cell_of_heap hx' 2, cell_of_heap hx' 3, cell_of_heap hx' 4, cell_of_heap hx' 5, cell_of_heap hx' 6, cell_of_heap hx' 7, cell_of_heap hp' 3, cell_of_heap hp' 4, cell_of_heap hp' 5, cell_of_heap hp' 6, cell_of_heap hp' 7, cell_of_heap hp' 8, ?_⟩
                rw [hwk, List.getElem?_eq_getElem (by rw [HW1.out.2]; exact hlt)]
                exact hw'.at k (by rw [HW1.out.2]; exact hlt)
              have hcb : ∀ w', Upd [] wz w' → ∀ (x a b c : Int), (0 ≤ a ∧ a < 64) ∧ (0 ≤ b ∧ b < 64) ∧ (0 ≤ c ∧ c < 64) → Calls Tryz.prog 116 #[.pointer (some ⟨p, 0, none⟩), .int .u64 x, .agg #[.int .i64 a, .int .i64 b, .int .i64 c]] w' fun e w2 => e = .returned (.int .u64 (bigF x a.toNat b.toNat c.toNat)) ∧ Upd [] w' w2 := by
                intro w' hu' x a b c h
                have q := big116 (cell_of_heap (hu'.heap hpz (by simp)) 2) x a.toNat b.toNat c.toNat (by omega) (by omega) (by omega)
                rw [Int.toNat_of_nonneg h.1.1, Int.toNat_of_nonneg h.2.1.1, Int.toNat_of_nonneg h.2.2.1] at q
                exact q
              have hq0 := hkeep _ (Upd.refl [] wz)
              obtain ⟨c0, c1', c2, c3, c4, c5, c6, c7, -⟩ := hq0
              have HK := Lib.hid hkeep
              have HCB := Lib.hid hcb
              have HR1 := Lib.hid r1
              have HKK := Lib.hid (show _ ∧ _ ∧ _ from ⟨hkk, hwk, he⟩)
              clear r1 r2 hl8 he hx3 hp3 hh3 hk3 hw3 hu3 hpx hhx hkx hxw hgw q5 hpz hkz hwz hkk hwk hkeep hcb
              go_upto_region 15 with fail
              go_quiet (fail)
              obtain ⟨wy, hwy⟩ : ∃ X, wz.drewN nq = X := ⟨_, rfl⟩
              have hyu : Upd [] wz wy := by rw [← hwy]; exact (Upd.refl [] wz).drewN nq
              rw [hwy]
              clear hwy c0 c1' c2 c3 c4 c5 c6 c7 dk d1
              go_upto_region 16 with fail
              have hq0 : Upd [] wz wy.drew := hyu.drew
              go_region_held3 (fun w' => w'.cell? ⟨gx, 0, none⟩ = some (.int .u64 x0) ∧ w'.cell? ⟨gx, 1, none⟩ = some (.int .u64 x1) ∧ w'.cell? ⟨gx, 2, none⟩ = some (.int .u64 x2) ∧ w'.cell? ⟨gx, 3, none⟩ = some (.int .u64 x3) ∧ w'.cell? ⟨gx, 4, none⟩ = some (.int .u64 x4) ∧ w'.cell? ⟨gx, 5, none⟩ = some (.int .u64 x5) ∧ w'.cell? ⟨gx, 6, none⟩ = some (.int .u64 x6) ∧ w'.cell? ⟨gx, 7, none⟩ = some (.int .u64 x7) ∧ w'.cell? ⟨p, 3, none⟩ = some (.int .i64 28) ∧ w'.cell? ⟨p, 4, none⟩ = some (.int .i64 34) ∧ w'.cell? ⟨p, 5, none⟩ = some (.int .i64 39) ∧ w'.cell? ⟨p, 6, none⟩ = some (.int .i64 14) ∧ w'.cell? ⟨p, 7, none⟩ = some (.int .i64 18) ∧ w'.cell? ⟨p, 8, none⟩ = some (.int .i64 41) ∧ w'.cell? ⟨gw, k, none⟩ = some (.int .u64 wk)) (first | exact HK.out _ (by assumption))
                (first | (go_at_call 116; refine (HCB.out _ (by assumption) _ _ _ _ (by decide)).mono ?_; rintro e wn ⟨rfl, hun⟩; have hun2 := Upd.trans (by assumption) hun))
              go_upto_region 17 with fail
              obtain ⟨c0, c1', c2, c3, c4, c5, c6, c7, m0, m1, m2, -⟩ := HK.out _ hun2
              have hun4 := hun2
              go_upto_region 18 with (go_at_call 116; refine (HCB.out _ hun4 _ _ _ _ (by decide)).mono ?_; rintro e wo ⟨rfl, huo⟩)
              clear c0 c1' c2 c3 c4 c5 c6 c7 m0 m1 m2
              have huo2 := Upd.trans hun4 huo
              obtain ⟨c0, c1', c2, c3, c4, c5, c6, c7, -⟩ := HK.out _ huo2
              have HXO := Lib.hid (show wo.heap[gx]? = _ from huo2.heap HR1.out (by simp))
              obtain ⟨P, hP⟩ : ∃ P, stepP x4 x5 x6 x7 kk wk = P := ⟨_, rfl⟩
              have hP' := hP
              unfold stepP at hP'
              obtain ⟨q, hq⟩ : ∃ q, stepQ x0 x1 x2 = q := ⟨_, rfl⟩
              have hq' := hq
              unfold stepQ at hq'
              rw [hP', hq']
              have HPQ := Lib.hid (show _ ∧ _ from ⟨hP, hq⟩)
              clear hP' hq' hP hq
              obtain ⟨f0, f1, f2, f3, f4, f5, f6, f7⟩ := free8 HXO.out
              go_wp2
              refine ⟨⟨k + 1, by simp, by omega, Lib.hid ⟨?_, ?_⟩⟩, by simp [intOf]; omega⟩
              · obtain ⟨e1, e2, e3⟩ := HKK.out
                obtain ⟨e4, e5⟩ := HPQ.out
                have e : turnX ks W1 hs (k + 1) = [IntKind.u64.wrap (P + q), x0, x1, x2, IntKind.u64.wrap (x3 + P), x4, x5, x6] := by
                  rw [turnX, e3, ← e1, ← e2, ← e4, ← e5]
                  rfl
                rw [e]
                exact (set8 HXO.out _ _ _ _ _ _ _ _).1
              · exact (hR3.out.2.trans (huo2.mono (by simp))).trans (set8 HXO.out _ _ _ _ _ _ _ _).2
            · have hkI : (k : Int) = 80 := by omega
              have hkN : k = 80 := by omega
              rw [hkN] at hR3
              rw [hkI]
              clear hkI hkN hk hlt
              go_wp2
              obtain ⟨xs, hxs⟩ : ∃ xs, xs = turnX ks W1 hs 80 := ⟨_, rfl⟩
              have HXS := Lib.hid (show _ ∧ xs.length = 8 from ⟨hxs, by rw [hxs]; exact turnX_len HM.out.2.2.2.1 80⟩)
              rw [← hxs] at hR3
              clear hxs
              go_loopw [189] (fun i wr => ∃ k : Nat, i = .int .i64 (k : Int) ∧ k ≤ 8 ∧ Hid (RowU wr gh (addX hs xs k) ∧ Upd [gh] wz wr)) (fun i _ => 8 - (intOf i).toNat)
              case atStart => exact ⟨0, rfl, by omega, Lib.hid ⟨hR3.out.2.heap H3.out.2.2.1 (by simpa using HN.out.2.1), Upd.refl _ _⟩⟩
              case round =>
                obtain ⟨wy, hwy⟩ : ∃ wy, wy = wr := ⟨_, rfl⟩
                rw [← hwy] at hrel ⊢
                clear hwy
                obtain ⟨k, rfl, hk, hR4⟩ := hrel
                by_cases hlt : k < 8
                · have hltI : (k : Int) < 8 := by omega
                  have hk0 : (0 : Int) ≤ (k : Int) := by omega
                  obtain ⟨r1, r2⟩ := hR4.out
                  obtain ⟨s1, s2⟩ := hR3.out
                  obtain ⟨hx3, hp3, hh3, hk3, hw3, hu3⟩ := H3.out
                  obtain ⟨hpx, hhx, hkx, hxw, hgw, q5⟩ := HN.out
                  have hpz : MachAt wz p _ _ := s2.heap hp3 (by simpa using hpx)
                  have hhz : RowU wz gh hs := s2.heap hh3 (by simpa using hhx)
                  have hph : p ≠ gh := by
                    intro e
                    unfold MachAt at hpz
                    rw [e, hhz] at hpz
                    simp at hpz
                  have hpy : MachAt wy p _ _ := r2.heap hpz (by simpa using hph)
                  have hxy : RowX wy gx xs := r2.heap s1 (by simpa using hhx.symm)
                  have hl : k < (addX hs xs k).length := by rw [addX_len, HM.out.2.2.2.1]; exact hlt
                  have d0 : wy.cell? ⟨p, 0, none⟩ = some (.slice (some ⟨gh, 0, none⟩) 8 ch) := cell_of_heap hpy 0
                  obtain ⟨hk', hhk⟩ : ∃ hk', hk' = (addX hs xs k)[k]?.getD 0 := ⟨_, rfl⟩
                  obtain ⟨xk, hxk⟩ : ∃ xk, xk = xs[k]?.getD 0 := ⟨_, rfl⟩
                  have d1 : wy.cell? ⟨gh, k, none⟩ = some (.int .u64 hk') := by rw [hhk, List.getElem?_eq_getElem hl]; exact r1.at k hl
                  have d2 : wy.cell? ⟨gx, k, none⟩ = some (.int .u64 xk) := by
                    rw [hxk, cell_of_heap hxy]
                    have : k < xs.length := by rw [HXS.out.2]; exact hlt
                    simp [uV, this]
                  have f1 : wy.frozen? ⟨gh, k, none⟩ = false := r1.free k
                  have HKK := Lib.hid (show _ ∧ _ from ⟨hhk, hxk⟩)
                  clear r1 r2 s1 s2 hx3 hp3 hh3 hk3 hw3 hu3 hpx hhx hkx hxw hgw q5 hpz hhz hph hpy hxy hl hhk hxk
                  go_upto_region 23 with fail
                  go_still_tail 12, (by kernel_rfl)
                  change wpList _ _ _ _ _ wy.drew
                  go_wp2
                  go_roundw
                  case rel =>
                    obtain ⟨r1, r2⟩ := hR4.out
                    obtain ⟨e1, e2⟩ := HKK.out
                    refine ⟨k + 1, by simp, by omega, Lib.hid ⟨?_, ?_⟩⟩
                    · rw [addX, ← e1, ← e2]
                      exact (r1.set k _).1
                    · exact (r2.trans (r1.set k _).2).drew
                  case measure => simp [intOf]; omega
                · have hkI : (k : Int) = 8 := by omega
                  have hkN : k = 8 := by omega
                  rw [hkN] at hR4
                  rw [hkI]
                  clear hkI hkN hk hlt
                  go_wp2
                  refine bodyPost_end (results_none rfl _ _ _) rfl ?_
                  obtain ⟨s1, s2⟩ := hR3.out
                  obtain ⟨hx3, hp3, hh3, hk3, hw3, hu3⟩ := H3.out
                  obtain ⟨hpx, hhx, hkx, hxw, hgw, q5⟩ := HN.out
                  have hA : Upd [gh] w wz := by
                    refine ⟨s2.os.trans hu3.os, s2.tape.trans hu3.tape, s2.output.trans hu3.output, Nat.le_trans hu3.size s2.size, fun j hj hS => ?_⟩
                    rw [s2.block j (Nat.lt_of_lt_of_le hj hu3.size) (by simp; omega), hu3.block j hj (by simp; omega)]
                  refine ⟨rfl, hA.trans hR4.out.2, ?_⟩
                  unfold blockF
                  rw [← HW0.out.1, ← HW1.out.1, ← HXS.out.1]
                  exact hR4.out.1
end Go.Proofs.YtdbceafejbnebaaGreatDoor
