/- What Load comes to, in plain words. bytes.Equal. trust.Load: books of the call's own. -/
import Derived.Test.YtdbceafejbnebaaGreatDoorM10
import Derived.Lib.SlFresh
/-! What Load comes to, in plain words. -/
namespace Go.Proofs.YtdbceafejbnebaaGreatDoor
open Go Go.RowKit
/-- Of each account what is known. -/
abbrev Bk := UInt8 → Option Con
def Bk.put (μ : Bk) (a : UInt8) (c : Con) : Bk := fun a' => if a' = a then some c else μ a'
def learnM (acct : UInt8) (μ : Bk) (a d : UInt8) (k : K) : Option Bk := if mayE acct a d = 0 then some (μ.put a (learnC ((μ a).getD newCon) d.toNat k)) else none
def knsM (acct : UInt8) (μ : Bk) (a : UInt8) (l : List Kn) : Option Bk := l.foldlM (fun μ x => learnM acct μ a x.1 x.2) μ
def oneM (acct : UInt8) (μ : Bk) (x : One) : Option Bk :=
  (knsM acct μ x.1 x.2.2).bind fun μ' => (μ' x.1).bind fun c => if 1 ≤ x.2.1.toNat ∧ x.2.1.toNat ≤ 3 then some (μ'.put x.1 (c.setSt x.2.1)) else none
def onesM (acct : UInt8) (μ : Bk) (l : List One) : Option Bk := l.foldlM (oneM acct) μ
def noneM : Bk := fun _ => none
/-- The three parts of a book's bytes. -/
def partsGo (xs : List UInt8) : Option (UInt8 × List K × List One) :=
  (u8Go xs).bind fun r => (listGo 4 keyGo (some r.2)).bind fun s => (listGo 8 oneGo (some s.2)).bind fun t => if t.2 = [] then some (r.1, s.1, t.1) else none
def stM (μ : Bk) (a : UInt8) : UInt8 := ((μ a).map (·.st)).getD 0
def knM (μ : Bk) (a : UInt8) : List Kn := ((μ a).map conKn).getD []
def onesOfM (μ : Bk) : List One := (List.range 8).filterMap fun a => if stM μ (UInt8.ofNat a) = 0 then none else some (UInt8.ofNat a, stM μ (UInt8.ofNat a), knM μ (UInt8.ofNat a))
def bookM (acct : UInt8) (own : List K) (μ : Bk) : List UInt8 := [acct] ++ (lenB own.length ++ keysB own) ++ (lenB (onesOfM μ).length ++ onesB (onesOfM μ))
theorem stOf_eq (m : Cs) (a : UInt8) : stOf m a = stM (conOf m) a := by
  unfold stOf stM conOf
  cases look a m <;> rfl
theorem onesOf_eq (m : Cs) : onesOf m = onesOfM (conOf m) := by
  unfold onesOf onesUpto onesOfM
  simp only [stOf_eq]
  rfl
theorem bookB_eq (acct : UInt8) (own : List K) (m : Cs) : bookB acct own m = bookM acct own (conOf m) := by
  unfold bookB bookM
  rw [onesOf_eq]
/-- What trust.Load makes of bytes: nothing, or a book. -/
def loadM (xs : List UInt8) : Option (UInt8 × List K × Bk) :=
  (partsGo xs).bind fun q => if q.1.toNat < 8 ∧ 1 ≤ q.2.1.length then
    (onesM q.1 noneM q.2.2).bind fun μ => if bookM q.1 (setF q.2.1) μ = xs then some (q.1, setF q.2.1, μ) else none
  else none
end Go.Proofs.YtdbceafejbnebaaGreatDoor
/-! bytes.Equal. -/
namespace Go.Proofs.YtdbceafejbnebaaGreatDoor
open Go Go.RowKit
theorem bytesIn_of {w : World} {ad : Addr} {xs : List UInt8} (h : Shows w ad xs) : Lib.BytesIn w (some ad) xs.length (Lib.numsL xs) := by
  refine Lib.BytesIn.of_cells fun i hi => ?_
  rw [h i (byteV xs[i]) (by simp [hi])]
  unfold byteV Lib.numsL
  simp [List.getD, hi]
theorem equal29 {w : World} (a1 a2 : Addr) (xs ys : List UInt8) (c d : Nat) (h1 : Shows w a1 xs) (h2 : Shows w a2 ys) :
    Calls Tryz.prog 29 #[.slice (some a1) xs.length c, .slice (some a2) ys.length d] w fun e w' => e = .returned (.bool (decide (xs = ys))) ∧ w' = w := by
  have h := Tryz.bytes_Equal_all (some a1) (some a2) xs.length c ys.length d (Lib.numsL xs) (Lib.numsL ys) w (Lib.numsL_length xs) (Lib.numsL_length ys) (bytesIn_of h1) (bytesIn_of h2)
  refine h.mono ?_
  rintro e w' ⟨rfl, rfl⟩
  refine ⟨?_, rfl⟩
  rw [Lib.bytesOf_numsL, Lib.bytesOf_numsL]
  congr 2
  by_cases h : xs = ys <;> simp [h]
end Go.Proofs.YtdbceafejbnebaaGreatDoor
/-! trust.Load: books of the call's own. -/
namespace Go.Proofs.YtdbceafejbnebaaGreatDoor
open Go Go.RowKit
/-- A book of the call's own: all its blocks lie at or beyond B. -/
def NewBook (B : Nat) (w : World) (b : Nat) (acct : UInt8) (own : List K) (μ : Bk) : Prop :=
  ∃ g cap r m, BookAt w b g cap r acct own m ∧ conOf m = μ ∧ B ≤ b ∧ B ≤ g ∧ B ≤ r ∧ ∀ q ∈ m.map (·.2.1), B ≤ q
theorem NewBook.upd0 {B : Nat} {w w' : World} {b : Nat} {acct : UInt8} {own : List K} {μ : Bk} (h : NewBook B w b acct own μ) (hu : Upd [] w w') : NewBook B w' b acct own μ := by
  obtain ⟨g, cap, r, m, h1, h2⟩ := h
  exact ⟨g, cap, r, m, h1.upd0 hu, h2⟩
theorem mayE_two {acct a d : UInt8} (h : mayE acct a d ≠ 0) : mayE acct a d = 2 := by
  unfold mayE at *
  split at h
  · rename_i q; rw [if_pos q]
  · exact absurd rfl h
theorem learn_newA {B : Nat} {w : World} {b : Nat} {acct : UInt8} {own : List K} {μ : Bk} (h : NewBook B w b acct own μ) (a d : UInt8) (k : K) (hm : mayE acct a d ≠ 0) :
    Calls Tryz.prog 11 #[bookV b, devV a d, .agg (keyCells k).toArray] w fun e w' => e = .returned (.tuple #[.bool false, .int .i64 2]) ∧ Upd [] w w' := by
  obtain ⟨g, cap, r, m, h1, h2⟩ := h
  exact learn_not h1 a d k (mayE_two hm)
/-- Cells that are no account's stay. -/
def Keep82 (w w' : World) : Prop := ∀ (q : Nat) (cs : Array Value) (t : TypeId) (fz : Nat × Nat), w.heap[q]? = some (.cells cs t fz) → t ≠ 82 → w'.heap[q]? = some (.cells cs t fz)
theorem Keep82.refl (w : World) : Keep82 w w := fun _ _ _ _ h _ => h
theorem Keep82.trans {a b c : World} (h : Keep82 a b) (k : Keep82 b c) : Keep82 a c := fun q cs t fz hq ht => k q cs t fz (h q cs t fz hq ht) ht
theorem Upd.keep82 {w w' : World} (h : Upd [] w w') : Keep82 w w' := fun _ _ _ _ hq _ => h.heap hq (by simp)
theorem learn_newB {w0 w : World} {b : Nat} {acct : UInt8} {own : List K} {μ : Bk} (h : NewBook w0.heap.size w b acct own μ) (hu : Upd [] w0 w) (a d : UInt8) (k : K) (hm : mayE acct a d = 0) :
    Calls Tryz.prog 11 #[bookV b, devV a d, .agg (keyCells k).toArray] w fun e w' => e = .returned (.tuple #[.bool (chg ((μ a).getD newCon) d.toNat k), .int .i64 0]) ∧ NewBook w0.heap.size w' b acct own (μ.put a (learnC ((μ a).getD newCon) d.toNat k)) ∧ Upd [] w0 w' ∧ Keep82 w w' := by
  obtain ⟨g, cap, r, m, h1, h2, h3, h4, h5, h6⟩ := h
  refine (learn_book h1 a d k hm).mono ?_
  rintro e w' ⟨m', rfl, q1, q2, q3, q4⟩
  rw [h2] at q2 ⊢
  have hsz := hu.size
  refine ⟨rfl, ⟨g, cap, r, m', q1, ?_, h3, h4, h5, ?_⟩, hu.trans' q3 ?_, ?_⟩
  · funext a'
    rw [q2 a']
    unfold Bk.put
    rw [← h2]
  · intro q hq
    rcases q4 q hq with z | z
    · exact h6 q z
    · omega
  · intro x hx
    rcases List.mem_cons.1 hx with rfl | hx
    · exact .inr h5
    · exact .inr (h6 x hx)
  · intro q cs t fz hq ht
    refine q3.heap hq ?_
    intro hx
    rcases List.mem_cons.1 hx with rfl | hx
    · obtain ⟨es, ck, z, _⟩ := h1.map
      rw [z] at hq
      cases hq
    · obtain ⟨x, hx1, rfl⟩ := List.mem_map.1 hx
      have z := h1.con x hx1
      unfold ConAt at z
      rw [z] at hq
      simp only [Option.some.injEq, Obj.cells.injEq] at hq
      exact ht hq.2.1.symm
theorem new_new (a : UInt8) (g cap : Nat) (l : List K) (w0 w : World) (hu : Upd [] w0 w) (hr : RowK w g cap l) (ha : a.toNat < 8) (h1 : 1 ≤ l.length) (h4 : l.length ≤ 4) :
    Calls Tryz.prog 9 #[byteV a, .slice (some ⟨g, 0, none⟩) l.length cap] w fun e w' => ∃ b, e = .returned (.tuple #[bookV b, .int .i64 0]) ∧ NewBook w0.heap.size w' b a (setF l) noneM ∧ Upd [] w0 w' := by
  refine (new_book a g cap l w hr ha h1 h4).mono ?_
  rintro e w' ⟨b, g', cap', r, rfl, q1, q2, q3, q4, q5⟩
  have hsz := hu.size
  exact ⟨b, rfl, ⟨g', cap', r, [], q1, rfl, by omega, by omega, by omega, by simp⟩, hu.trans q2⟩
theorem bytes_new {B : Nat} {w : World} {b : Nat} {acct : UInt8} {own : List K} {μ : Bk} (h : NewBook B w b acct own μ) (h1 : 1 ≤ own.length) (h4 : own.length ≤ 4) :
    Calls Tryz.prog 8 #[bookV b] w fun e w' => ∃ h c, e = .returned (.slice (some ⟨h, 0, none⟩) (bookM acct own μ).length c) ∧ Shows w' ⟨h, 0, none⟩ (bookM acct own μ) ∧ Upd [] w w' := by
  obtain ⟨g, cap, r, m, q1, q2, _⟩ := h
  refine (bytes_book q1 h1 h4).mono ?_
  rintro e w' ⟨h, c, rfl, z1, z2⟩
  have e0 := bookB_eq acct own m
  rw [q2] at e0
  rw [e0] at z1 ⊢
  refine ⟨h, c, rfl, ?_, z2⟩
  obtain ⟨_, y | ⟨g', cap', cur, y1, y2, y3, y4, y5, y6, y7⟩⟩ := z1
  · cases y.1
  · cases y1
    intro j u hj
    rw [Addr.add_lit, cell_of_heap y3, Nat.zero_add]
    have hjl : j < (bookM acct own μ).length := by simpa using (List.getElem?_eq_some_iff.1 hj).1
    rw [← y7, List.getElem?_take, if_pos (by omega), Array.getElem?_toList] at hj
    exact hj
/-- The state of an account turned. -/
theorem NewBook.turn {w0 w w' : World} {b : Nat} {acct : UInt8} {own : List K} {μ : Bk} {g cap r : Nat} {m : Cs} (hb : BookAt w b g cap r acct own m) (hm : conOf m = μ) (h1 : w0.heap.size ≤ b) (h2 : w0.heap.size ≤ g) (h3 : w0.heap.size ≤ r) (h4 : ∀ q ∈ m.map (·.2.1), w0.heap.size ≤ q)
    {a : UInt8} {p : Nat} {c c' : Con} (hl : look a m = some (p, c)) (hu : Upd [p] w w') (hc : ConAt w' p c') (hw : Upd [] w0 w) : NewBook w0.heap.size w' b acct own (μ.put a c') ∧ Upd [] w0 w' := by
  have hp : w0.heap.size ≤ p := h4 p (List.mem_map.2 ⟨_, look_mem hl, rfl⟩)
  refine ⟨⟨g, cap, r, Cs.put m p c', hb.turn hl hu hc, ?_, h1, h2, h3, ?_⟩, hw.trans' hu ?_⟩
  · funext a'
    unfold conOf Bk.put
    rw [look_put hb.apart hl, ← hm]
    split
    · rfl
    · rfl
  · rw [put_apart]; exact h4
  · intro x hx
    rw [List.mem_singleton] at hx
    subst hx
    exact .inr hp
end Go.Proofs.YtdbceafejbnebaaGreatDoor
