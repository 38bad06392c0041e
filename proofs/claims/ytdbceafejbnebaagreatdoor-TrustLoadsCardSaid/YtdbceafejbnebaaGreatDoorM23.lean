/- The document's book in memory. The document's book: may, State. -/
import Derived.Test.YtdbceafejbnebaaGreatDoorM22
/-! The document's book in memory. -/
namespace Go.Proofs.YtdbceafejbnebaaGreatDoor
open Go Go.RowKit
def rcCells (c : RC) : List Value := c.hs.map Value.bool ++ (c.ks.flatMap keyCells ++ [byteV c.st])
theorem rcCells_len (c : RC) : (rcCells c).length = 133 := by
  unfold rcCells
  rw [List.length_append, List.length_map, c.hh, List.length_append, flat_len, c.hk]
  rfl
theorem rcCells_one (c : RC) : ∀ v ∈ rcCells c, v.oneCell' = true := by
  intro v hv
  unfold rcCells at hv
  rw [List.mem_append, List.mem_append] at hv
  rcases hv with hv | hv | hv
  · obtain ⟨b, _, rfl⟩ := List.mem_map.1 hv
    rfl
  · obtain ⟨k, _, hk⟩ := List.mem_flatMap.1 hv
    exact keyCells_one k v hk
  · rw [List.mem_singleton] at hv
    subst hv
    rfl
theorem flatMap_cong {α β : Type} {l : List α} {f g : α → List β} (h : ∀ x ∈ l, f x = g x) : l.flatMap f = l.flatMap g := by
  unfold List.flatMap
  congr 1
  exact List.map_congr_left h
theorem take_put (M F x : List Value) (n m : Nat) (hM : M.length = 4) : M ++ (F.take n ++ x ++ F.drop m) = (M ++ F).take (4 + n) ++ x ++ (M ++ F).drop (4 + m) := by
  have h1 : (M ++ F).take (4 + n) = M ++ F.take n := by
    rw [List.take_append, hM, List.take_of_length_le (l := M) (by omega), show 4 + n - 4 = n by omega]
  have h2 : (M ++ F).drop (4 + m) = F.drop m := by
    rw [List.drop_append, hM, List.drop_of_length_le (l := M) (by omega), show 4 + m - 4 = m by omega]
    rfl
  rw [h1, h2]
  simp
theorem flat_split {f : Nat → List Value} {m : Nat} (hf : ∀ a, (f a).length = m) : ∀ n a, a < n → ∃ P S, P.length = a * m ∧ (List.range n).flatMap f = P ++ f a ++ S ∧ ∀ x, (List.range n).flatMap (fun b => if b = a then x else f b) = P ++ x ++ S := by
  intro n
  induction n with
  | zero => intro a h; omega
  | succ n ih =>
    intro a h
    rw [List.range_succ]
    by_cases ha : a < n
    · obtain ⟨P, S, h1, h2, h3⟩ := ih a ha
      refine ⟨P, S ++ f n, h1, ?_, fun x => ?_⟩
      · rw [List.flatMap_append, h2]; simp
      · have hne : ¬ n = a := by omega
        rw [List.flatMap_append, h3 x]
        simp [hne]
    · obtain rfl : a = n := by omega
      refine ⟨(List.range a).flatMap f, [], ?_, ?_, fun x => ?_⟩
      · clear ih
        induction a with
        | zero => simp
        | succ a ih2 => rw [List.range_succ, List.flatMap_append, List.length_append, ih2 (by omega) (by omega)]; simp [hf]; rw [Nat.succ_mul]
      · rw [List.flatMap_append]; simp
      · rw [List.flatMap_append]
        have : (List.range a).flatMap (fun b => if b = a then x else f b) = (List.range a).flatMap f := by
          apply flatMap_cong
          intro b hb
          rw [List.mem_range] at hb
          rw [if_neg (by omega)]
        rw [this]
        simp
def refCells (acct : UInt8) (ov : Value) (ρ : Rb) : List Value := byteV acct :: ov :: (List.range 8).flatMap fun a => rcCells (ρ (UInt8.ofNat a))
def RefAt (w : World) (g : Nat) (acct : UInt8) (ov : Value) (ρ : Rb) : Prop := w.heap[g]? = some (.cells (refCells acct ov ρ).toArray 37 (0, 0))
theorem refCells_split (acct : UInt8) (ov : Value) (ρ : Rb) (a : UInt8) (ha : a.toNat < 8) : ∃ P S, P.length = 2 + a.toNat * 133 ∧ refCells acct ov ρ = P ++ rcCells (ρ a) ++ S ∧ ∀ c, refCells acct ov (ρ.put a c) = P ++ rcCells c ++ S := by
  obtain ⟨P, S, h1, h2, h3⟩ := flat_split (f := fun a => rcCells (ρ (UInt8.ofNat a))) (m := 133) (fun a => rcCells_len _) 8 a.toNat ha
  have e : UInt8.ofNat a.toNat = a := by simp
  refine ⟨byteV acct :: ov :: P, S, by simp [h1]; omega, ?_, fun c => ?_⟩
  · unfold refCells
    rw [h2, e]
    rfl
  · unfold refCells
    have : (List.range 8).flatMap (fun a' => rcCells (ρ.put a c (UInt8.ofNat a'))) = (List.range 8).flatMap (fun b => if b = a.toNat then rcCells c else rcCells (ρ (UInt8.ofNat b))) := by
      apply flatMap_cong
      intro b hb
      rw [List.mem_range] at hb
      unfold Rb.put
      by_cases hba : b = a.toNat
      · rw [if_pos hba, if_pos (by rw [hba]; exact e)]
      · rw [if_neg hba, if_neg]
        intro q
        apply hba
        have := congrArg UInt8.toNat q
        simp at this
        omega
    rw [this, h3]
    rfl
theorem RefAt.cell {w : World} {g : Nat} {acct : UInt8} {ov : Value} {ρ : Rb} (h : RefAt w g acct ov ρ) (a : UInt8) (ha : a.toNat < 8) (j : Nat) (hj : j < 133) : w.cell? ⟨g, 2 + a.toNat * 133 + j, none⟩ = (rcCells (ρ a))[j]? := by
  obtain ⟨P, S, h1, h2, _⟩ := refCells_split acct ov ρ a ha
  rw [cell_of_heap h, List.getElem?_toArray, h2, List.append_assoc, List.getElem?_append_right (by omega), h1, show 2 + a.toNat * 133 + j - (2 + a.toNat * 133) = j by omega, List.getElem?_append_left (by rw [rcCells_len]; exact hj)]
theorem RefAt.has {w : World} {g : Nat} {acct : UInt8} {ov : Value} {ρ : Rb} (h : RefAt w g acct ov ρ) (a : UInt8) (ha : a.toNat < 8) (d : Nat) (hd : d < 4) : w.cell? ⟨g, 2 + a.toNat * 133 + d, none⟩ = some (.bool ((ρ a).hs[d]'(by rw [(ρ a).hh]; exact hd))) := by
  rw [h.cell a ha d (by omega)]
  unfold rcCells
  rw [List.getElem?_append_left (by rw [List.length_map, (ρ a).hh]; exact hd), List.getElem?_map, List.getElem?_eq_getElem (by rw [(ρ a).hh]; exact hd)]
  rfl
theorem RefAt.state {w : World} {g : Nat} {acct : UInt8} {ov : Value} {ρ : Rb} (h : RefAt w g acct ov ρ) (a : UInt8) (ha : a.toNat < 8) : w.cell? ⟨g, 2 + a.toNat * 133 + 132, none⟩ = some (byteV (ρ a).st) := by
  rw [h.cell a ha 132 (by omega)]
  unfold rcCells
  rw [List.getElem?_append_right (by rw [List.length_map, (ρ a).hh]; omega), List.length_map, (ρ a).hh, List.getElem?_append_right (by rw [flat_len, (ρ a).hk]; omega), flat_len, (ρ a).hk]
  rfl
theorem RefAt.key {w : World} {g : Nat} {acct : UInt8} {ov : Value} {ρ : Rb} (h : RefAt w g acct ov ρ) (a : UInt8) (ha : a.toNat < 8) (d : Nat) (hd : d < 4) : w.rangeAt g (2 + a.toNat * 133 + (4 + d * 32)) (keyCells ((ρ a).ks[d]'(by rw [(ρ a).hk]; exact hd))) := by
  intro j v hj
  have hj32 : j < 32 := by have := (List.getElem?_eq_some_iff.1 hj).1; rwa [keyCells_len] at this
  rw [Nat.add_assoc (2 + a.toNat * 133), h.cell a ha (4 + d * 32 + j) (by omega)]
  unfold rcCells
  rw [List.getElem?_append_right (by rw [List.length_map, (ρ a).hh]; omega), List.length_map, (ρ a).hh, show 4 + d * 32 + j - 4 = d * 32 + j by omega, List.getElem?_append_left (by rw [flat_len, (ρ a).hk]; omega), flat_at (ρ a).ks d j (by rw [(ρ a).hk]; exact hd) hj32, hj]
theorem RefAt.free {w : World} {g : Nat} {acct : UInt8} {ov : Value} {ρ : Rb} (h : RefAt w g acct ov ρ) (o : Nat) : w.frozen? ⟨g, o, none⟩ = false := free_of_heap h o
theorem RefAt.upd {S : List Nat} {w w' : World} {g : Nat} {acct : UInt8} {ov : Value} {ρ : Rb} (h : RefAt w g acct ov ρ) (hu : Upd S w w') (hS : g ∉ S) : RefAt w' g acct ov ρ := hu.heap h hS
/-- One cell of an account turned. -/
theorem RefAt.set1 {w : World} {g : Nat} {acct : UInt8} {ov : Value} {ρ : Rb} (h : RefAt w g acct ov ρ) (a : UInt8) (ha : a.toNat < 8) (j : Nat) (hj : j < 133) (v : Value) (c : RC) (hc : rcCells c = (rcCells (ρ a)).set j v) :
    RefAt (w.setCell ⟨g, 2 + a.toNat * 133 + j, none⟩ v) g acct ov (ρ.put a c) ∧ Upd [g] w (w.setCell ⟨g, 2 + a.toNat * 133 + j, none⟩ v) := by
  refine ⟨?_, (Upd.refl [g] w).setCell (.inr (by simp)) _⟩
  obtain ⟨P, S, h1, h2, h3⟩ := refCells_split acct ov ρ a ha
  unfold RefAt
  rw [heap_setCell_same h, h3 c, hc]
  congr 2
  apply Array.ext'
  rw [Array.toList_setIfInBounds, List.toList_toArray, h2, List.append_assoc, List.set_append_right _ _ (by omega), h1, show 2 + a.toNat * 133 + j - (2 + a.toNat * 133) = j by omega, List.set_append_left _ _ (by rw [rcCells_len]; exact hj), List.append_assoc]
/-- A key of an account turned. -/
theorem RefAt.setK {w : World} {g : Nat} {acct : UInt8} {ov : Value} {ρ : Rb} (h : RefAt w g acct ov ρ) (a : UInt8) (ha : a.toNat < 8) (d : Nat) (hd : d < 4) (k : K) (c : RC) (hc : c = { ρ a with ks := (ρ a).ks.set d k, hk := by rw [List.length_set]; exact (ρ a).hk }) :
    RefAt (w.setCells g (2 + a.toNat * 133 + (4 + d * 32)) (keyCells k)) g acct ov (ρ.put a c) ∧ Upd [g] w (w.setCells g (2 + a.toNat * 133 + (4 + d * 32)) (keyCells k)) := by
  obtain ⟨P, S, h1, h2, h3⟩ := refCells_split acct ov ρ a ha
  have hlen : (refCells acct ov ρ).length = P.length + 133 + S.length := by rw [h2]; simp [rcCells_len]; omega
  have e := setCells_eq (2 + a.toNat * 133 + (4 + d * 32)) (keyCells k) h (by rw [List.size_toArray, hlen, keyCells_len]; omega) (keyCells_one k)
  rw [e]
  refine ⟨?_, upd_setRow w g _⟩
  have := setRow_heap w g _ (List.take (2 + a.toNat * 133 + (4 + d * 32)) (refCells acct ov ρ).toArray.toList ++ keyCells k ++ List.drop (2 + a.toNat * 133 + (4 + d * 32) + (keyCells k).length) (refCells acct ov ρ).toArray.toList).toArray 37 (0, 0) h
  unfold RefAt
  rw [this, h3 c]
  congr 3
  rw [List.toList_toArray, h2, keyCells_len]
  have hx : rcCells c = (rcCells (ρ a)).take (4 + d * 32) ++ keyCells k ++ (rcCells (ρ a)).drop (4 + d * 32 + 32) := by
    have hf := flat_set (ρ a).ks k [byteV (ρ a).st] d (by rw [(ρ a).hk]; exact hd)
    rw [hc]
    unfold rcCells
    simp only
    rw [← hf, take_put _ _ _ _ _ (by rw [List.length_map, (ρ a).hh])]
    rfl
  rw [hx, List.append_assoc P, List.take_append, List.take_of_length_le (by omega), h1, List.drop_append, List.drop_of_length_le (by omega), h1, show 2 + a.toNat * 133 + (4 + d * 32) - (2 + a.toNat * 133) = 4 + d * 32 by omega, show 2 + a.toNat * 133 + (4 + d * 32) + 32 - (2 + a.toNat * 133) = 4 + d * 32 + 32 by omega, List.take_append_of_le_length (by rw [rcCells_len]; omega), List.drop_append_of_le_length (by rw [rcCells_len]; omega)]
  simp
end Go.Proofs.YtdbceafejbnebaaGreatDoor
/-! The document's book: may, State. -/
namespace Go.Proofs.YtdbceafejbnebaaGreatDoor
open Go Go.RowKit
set_option maxHeartbeats 1000000 in
theorem rmay58 {w : World} {g : Nat} {acct : UInt8} {ov : Value} {ρ : Rb} (hr : RefAt w g acct ov ρ) (a d : UInt8) :
    Calls Tryz.prog 58 #[.pointer (some ⟨g, 0, none⟩), devV a d] w fun e w' => e = .returned (.bool (decide (mayE acct a d = 0))) ∧ Upd [] w w' := by
  have hl := lt_of_heap hr
  have hc2 : ∀ o, (w.alloc o).cell? ⟨g, 0, none⟩ = some (.int .u8 (acct.toNat : Int)) := by
    intro o
    rw [cell_of_heap (by rw [Below.heap_alloc _ _ _ hl]; exact hr)]
    rfl
  clear hr hl
  unfold devV byteV
  by_cases h1 : 8 ≤ a.toNat
  · have e1 : decide ((a.toNat : Int) < 8) = false := by simp; omega
    have hm : decide (mayE acct a d = 0) = false := by simp [mayE, h1]
    rw [hm]
    clear h1 hm
    go_enter Tryz.func58, Tryz.ntmps58
    go_upto_region 1 with fail
    go_quiet (fail)
    go_wp2
    go_ret
    exact ⟨rfl, (Upd.new w _).drewN _⟩
  · by_cases h2 : 4 ≤ d.toNat
    · have e1 : decide ((a.toNat : Int) < 8) = true := by simp; omega
      have e2 : decide ((d.toNat : Int) < 4) = false := by simp; omega
      have hm : decide (mayE acct a d = 0) = false := by simp [mayE, h2]
      rw [hm]
      clear h1 h2 hm
      go_enter Tryz.func58, Tryz.ntmps58
      go_upto_region 1 with fail
      go_quiet (fail)
      go_wp2
      go_ret
      exact ⟨rfl, (Upd.new w _).drewN _⟩
    · have e1 : decide ((a.toNat : Int) < 8) = true := by simp; omega
      have e2 : decide ((d.toNat : Int) < 4) = true := by simp; omega
      have e3 : (!((a.toNat : Int) == (acct.toNat : Int))) = decide (mayE acct a d = 0) := by
        by_cases h3 : a = acct
        · subst h3
          simp [mayE]
        · have : ((a.toNat : Int) == (acct.toNat : Int)) = false := by
            rw [beq_eq_false_iff_ne]
            intro e
            exact h3 (UInt8.toNat_inj.1 (by omega))
          rw [this]
          simp [mayE, h1, h2, h3]
      have e4 : ((a.toNat : Int) != (acct.toNat : Int)) = decide (mayE acct a d = 0) := e3
      obtain ⟨r, hr⟩ : ∃ r, r = decide (mayE acct a d = 0) := ⟨_, rfl⟩
      rw [← hr] at e3 e4 ⊢
      clear h1 h2 hr
      go_enter Tryz.func58, Tryz.ntmps58
      go_upto_region 1 with fail
      go_quiet (fail)
      go_wp2
      go_ret
      exact ⟨rfl, (Upd.new w _).drewN _⟩
set_option maxHeartbeats 1000000 in
theorem rstate36 {w : World} {g : Nat} {acct : UInt8} {ov : Value} {ρ : Rb} (hr : RefAt w g acct ov ρ) (a : UInt8) :
    Calls Tryz.prog 36 #[.pointer (some ⟨g, 0, none⟩), byteV a] w fun e w' => e = .returned (byteV (if a.toNat < 8 then (ρ a).st else 0)) ∧ w' = w := by
  unfold byteV
  by_cases h : a.toNat < 8
  · have hs := hr.state a h
    rw [if_pos h]
    obtain ⟨an, han⟩ : ∃ an, an = a.toNat := ⟨_, rfl⟩
    rw [← han] at hs h ⊢
    have e1 : decide ((7 : Int) < (an : Int)) = false := by simp; omega
    have e2 : (an : Int) < 8 := by omega
    have e3 : (0 : Int) ≤ (an : Int) := by omega
    unfold byteV at hs
    clear han hr
    go_enter Tryz.func36, Tryz.ntmps36
    go_wp2
    go_ret
    exact ⟨rfl, rfl⟩
  · have e1 : decide ((7 : Int) < (a.toNat : Int)) = true := by simp; omega
    rw [if_neg h]
    clear h
    go_enter Tryz.func36, Tryz.ntmps36
    go_wp2
    go_ret
    exact ⟨rfl, rfl⟩
end Go.Proofs.YtdbceafejbnebaaGreatDoor
