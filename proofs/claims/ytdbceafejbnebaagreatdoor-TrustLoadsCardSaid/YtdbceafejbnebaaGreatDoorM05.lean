/- The set of a list of keys. Books in memory. Books: may, State. -/
import Derived.Test.YtdbceafejbnebaaGreatDoorM04
import Derived.BigQuiet
/-! The set of a list of keys. -/
namespace Go.Proofs.YtdbceafejbnebaaGreatDoor
open Go Go.RowKit
instance : Inhabited K := ⟨zeroK⟩
def cfK (x y : K) : Int := Lib.compareBytes x.1 y.1
theorem cmpB_lt : ∀ (a b : List UInt8), (Lib.compareBytes a b < 0 ↔ a < b) := by
  intro a
  induction a with
  | nil => intro b; cases b <;> simp [Lib.compareBytes]
  | cons x a ih =>
    intro b
    cases b with
    | nil => simp [Lib.compareBytes]
    | cons y b =>
      simp only [Lib.compareBytes, List.cons_lt_cons_iff]
      split
      · rename_i h; simp [h]
      · rename_i h
        split
        · rename_i h2
          constructor
          · intro h3; omega
          · rintro (h3 | ⟨h3, h4⟩)
            · exact absurd h3 h
            · subst h3; exact absurd h2 h
        · rename_i h2
          have e : x = y := UInt8.le_antisymm (UInt8.not_lt.1 h2) (UInt8.not_lt.1 h)
          subst e
          simp [ih]
theorem ltOf_cfK (x y : K) : ltOf cfK x y = decide (x.1 < y.1) := by
  unfold ltOf cfK
  rw [decide_eq_decide]
  exact cmpB_lt _ _
theorem swoK : Sort.SWO (ltOf cfK) where
  irrefl x := by rw [ltOf_cfK]; simp
  trans x y z h1 h2 := by
    rw [ltOf_cfK] at *
    simp only [decide_eq_true_eq] at *
    exact List.lt_trans h1 h2
  ntrans x y z h1 h2 := by
    rw [ltOf_cfK] at *
    simp only [decide_eq_false_iff_not] at *
    rw [List.not_lt] at *
    exact List.le_trans h2 h1
theorem flatK_list (d : Array K) : (Sort.flatK keyCells 32 d).toList = d.toList.flatMap keyCells := by
  apply List.ext_getElem?
  intro t
  by_cases ht : t < d.size * 32
  · have hi : t / 32 < d.size := by omega
    have hj : t % 32 < 32 := by omega
    have e : t = t / 32 * 32 + t % 32 := by omega
    have h1 := Sort.get_flatK keyCells 32 d t ht
    rw [getElem!_pos _ t (by simpa using ht)] at h1
    rw [Array.getElem?_toList, Array.getElem?_eq_getElem (by simpa using ht), h1]
    conv => rhs; rw [e]
    rw [flat_at d.toList (t / 32) (t % 32) (by simpa using hi) hj, getElem!_pos d (t / 32) hi, getElem!_pos _ (t % 32) (by rw [keyCells_len]; exact hj)]
    simp
  · rw [List.getElem?_eq_none (by simpa using ht), List.getElem?_eq_none (by rw [flat_len]; simpa using ht)]
/-- What comes later turns, of the blocks that were there at first, only those of S. -/
theorem Upd.trans' {S T : List Nat} {a b c : World} (h : Upd S a b) (k : Upd T b c) (hT : ∀ x, x ∈ T → x ∈ S ∨ a.heap.size ≤ x) : Upd S a c :=
  ⟨k.os.trans h.os, k.tape.trans h.tape, k.output.trans h.output, Nat.le_trans h.size k.size, fun i hi hS => (k.block i (Nat.lt_of_lt_of_le hi h.size) (fun hiT => by
    rcases hT i hiT with h1 | h1
    · exact hS h1
    · omega)).trans (h.block i hi hS)⟩
def sortF (l : List K) : List K := (Sort.insertionSort (ltOf cfK) l.toArray 0 l.length).toList
theorem sortF_perm (l : List K) : (sortF l).Perm l := by
  have h := (Sort.insertionSort_holds (lt := ltOf cfK) swoK l.toArray 0 l.length (Nat.zero_le _) (by simp)).1
  obtain ⟨h1, h2, h3⟩ := h
  unfold sortF
  have e : ∀ (d : Array K), d.size = l.length → (d.extract 0 l.length).toList = d.toList := by
    intro d hd
    rw [← hd, Array.extract_size]
  rw [e _ (by simpa using h1), e _ (by simp)] at h3
  simpa using h3
theorem sortF_sorted (l : List K) : (sortF l).Pairwise (fun a b => ¬ (b.1 < a.1)) := by
  have h := (Sort.insertionSort_holds (lt := ltOf cfK) swoK l.toArray 0 l.length (Nat.zero_le _) (by simp))
  have hs := h.2
  have hl : (sortF l).length = l.length := (sortF_perm l).length_eq
  rw [List.pairwise_iff_getElem]
  intro i j hi hj hij
  have := hs i j (Nat.zero_le _) hij (by omega)
  rw [ltOf_cfK, decide_eq_false_iff_not] at this
  have e : ∀ (k : Nat) (hk : k < (sortF l).length), (sortF l)[k] = (Sort.insertionSort (ltOf cfK) l.toArray 0 l.toArray.size)[k]! := by
    intro k hk
    rw [getElem!_pos _ k (by simpa [sortF] using hk)]
    rfl
  rw [e j hj, e i hi]
  exact this
theorem sortF_len (l : List K) : (sortF l).length = l.length := (sortF_perm l).length_eq
theorem holdsK_of {w : World} {g cap : Nat} {l : List K} (h : RowK w g cap l) : Sort.HoldsK keyCells 32 w g 0 l.toArray := by
  obtain ⟨sp, h1, h2, h3⟩ := h
  intro j hj
  rw [Sort.size_flatK] at hj
  simp only [List.size_toArray] at hj
  refine ⟨?_, free_of_heap h1 _⟩
  rw [cell_of_heap h1, getElem!_pos _ j (by rw [Sort.size_flatK]; simpa using hj)]
  have e := flatK_list l.toArray
  simp only [List.getElem?_toArray, Nat.zero_add, id]
  rw [List.getElem?_append_left (by rw [flat_len]; omega)]
  have : (Sort.flatK keyCells 32 l.toArray).toList[j]? = (l.flatMap keyCells)[j]? := by rw [e]
  rw [← this, Array.getElem?_toList, Array.getElem?_eq_getElem (by rw [Sort.size_flatK]; simpa using hj)]
theorem sortWorld_row {w : World} {g cap : Nat} {l : List K} (h : RowK w g cap l) (n : Nat) (d : Array K) (hd : d.size = l.length) (os : Array Obj) :
    RowK (sortWorldK keyCells 32 w g 0 n d os) g cap d.toList ∧ Upd [g] w (sortWorldK keyCells 32 w g 0 n d os) := by
  obtain ⟨sp, h1, h2, h3⟩ := h
  have hlt := lt_of_heap h1
  have hb : ∀ k, k < w.heap.size → (sortWorldK keyCells 32 w g 0 n d os).heap[k]? = (w.heap.modify g (Sort.onCells (Sort.putCells id 0 (Sort.flatK keyCells 32 d))))[k]? := by
    intro k hk
    show ((w.heap.modify g (Sort.onCells (Sort.putCells id 0 (Sort.flatK keyCells 32 d)))) ++ os)[k]? = _
    rw [Array.getElem?_append_left (by simpa using hk)]
  constructor
  · refine ⟨sp, ?_, by simp; omega, h3⟩
    rw [hb g hlt, Array.getElem?_modify, if_pos rfl, h1]
    simp only [Option.map_some, Sort.onCells, Option.some.injEq, Obj.cells.injEq, and_true]
    apply Array.ext'
    rw [List.toList_toArray]
    apply List.ext_getElem?
    intro t
    have e := flatK_list d
    rw [Array.getElem?_toList, Sort.putCells, Array.getElem?_mapIdx]
    simp only [List.getElem?_toArray, Sort.size_flatK, Nat.zero_le, true_and, Nat.zero_add, Nat.sub_zero, id]
    have hdl : d.toList.length = l.length := by rw [Array.length_toList, hd]
    by_cases ht : t < d.size * 32
    · have h4 : t < (Sort.flatK keyCells 32 d).size := by rw [Sort.size_flatK]; exact ht
      have h5 : t < (l.flatMap keyCells).length := by rw [flat_len]; omega
      rw [List.getElem?_append_left h5, List.getElem?_append_left (by rw [flat_len]; omega), ← e]
      have h6 : (Sort.flatK keyCells 32 d).toList[t]? = some (Sort.flatK keyCells 32 d)[t] := by rw [Array.getElem?_toList, Array.getElem?_eq_getElem h4]
      rw [h6]
      simp only [List.getElem?_eq_getElem h5, Option.map_some, if_pos ht]
      rw [getElem!_pos _ t h4]
    · rw [List.getElem?_append_right (by rw [flat_len]; omega), List.getElem?_append_right (by rw [flat_len]; omega), flat_len, flat_len, hdl]
      simp only [if_neg ht]
      simp
  · refine ⟨rfl, rfl, rfl, ?_, ?_⟩
    · show w.heap.size ≤ ((w.heap.modify g _) ++ os).size
      simp
    · intro k hk hg
      rw [hb k hk, Array.getElem?_modify, if_neg (by intro e; exact hg (by simp [e]))]
theorem sort67 (g cap : Nat) (l : List K) (w : World) (hr : RowK w g cap l) (hl : l.length ≤ 12) :
    Calls Tryz.prog 67 #[.slice (some ⟨g, 0, none⟩) l.length cap, .func (.func 68) #[] #[]] w fun e w' => e = .returned (.tuple #[]) ∧ Upd [g] w w' ∧ RowK w' g cap (sortF l) := by
  have hlt : g < w.heap.size := by obtain ⟨sp, h1, _⟩ := hr; exact lt_of_heap h1
  have h := AnyQ.slices_SortFunc_small Tryz.sortK 32 (fun _ => by kernel_rfl) (fun _ => by kernel_rfl) keyCells keyCells_len (fun x => keyCells_one x) cfK 68 #[] g 0 cap l.toArray w
    (fun args w => enters_of Tryz.func68 (by kernel_rfl) rfl args w)
    (fun m os dk hs x y => (order68 x y _).mono fun e w' ⟨he, q, os', hw⟩ => ⟨he, q, os', hw⟩)
    (holdsK_of hr) hlt (by simpa using hl)
    (fun n W hn => (Tryz.bits_Len n W (by omega) (by omega)).mono fun e w' ⟨he, hw⟩ => ⟨⟨_, he⟩, hw⟩)
  rw [List.size_toArray] at h
  refine h.mono ?_
  rintro e w' ⟨rfl, n, os, rfl⟩
  have hs : (Sort.insertionSort (ltOf cfK) l.toArray 0 l.length).size = l.length := by
    have := sortF_len l
    unfold sortF at this
    simpa using this
  have := sortWorld_row hr n (Sort.insertionSort (ltOf cfK) l.toArray 0 l.length) hs os
  exact ⟨rfl, this.2, this.1⟩
theorem heap_ownsRow {w : World} {g n cap : Nat} {l : List K} {B : Nat} (h : w.ownsRow B 31 32 (.slice (some ⟨g, 0, none⟩) n cap) n (l.flatMap keyCells)) : RowK w g cap l := (RowK.of_owns h).1
theorem clone66 (g cap : Nat) (l : List K) (w : World) (hr : RowK w g cap l) (hl : l.length ≤ 1000) (h0 : 1 ≤ l.length) :
    Calls Tryz.prog 66 #[.slice (some ⟨g, 0, none⟩) l.length cap] w fun e w' => ∃ g' cap', e = .returned (.slice (some ⟨g', 0, none⟩) l.length cap') ∧ Upd [] w w' ∧ RowK w' g' cap' l ∧ w.heap.size ≤ g' := by
  obtain ⟨sp, h1, h2, h3⟩ := id hr
  have hlm : l.length ≤ maxLen := by omega
  have hbig : l.length * 32 ≤ 140737488355328 := Nat.le_trans (Nat.mul_le_mul_right 32 hl) (by decide)
  obtain ⟨i0, hi, hz0, hz1, hz2⟩ := info_parts Tryz.info31
  have h := AnyE.slices_Clone Tryz.cloneK i0 _ 32 32 hi hz0 hz1 hz2 (by kernel_rfl) (by omega) (fun _ => by kernel_rfl) g 0 l.length cap (l.flatMap keyCells) w (flat_len l) hlm hbig
    (by
      intro j u hj
      rw [cell_of_heap h1, Nat.zero_add]
      simp only [List.getElem?_toArray]
      rw [List.getElem?_append_left (List.getElem?_eq_some_iff.1 hj).1]
      exact hj)
    (by
      intro u hu
      obtain ⟨k, _, hk⟩ := List.mem_flatMap.1 hu
      exact keyCells_one k u hk)
  refine h.mono ?_
  rintro e w' ⟨v', rfl, hown, hnn, hb⟩
  have hown2 := hown
  obtain ⟨q1, q2 | ⟨g', cap', cur, hv, hbs, hg, hn, hm, hs, ht⟩⟩ := hown
  · exfalso; have := q2.2; omega
  · have hv' : v' = .slice (some ⟨g', 0, none⟩) l.length cap' := hv
    subst hv'
    have hro := RowK.of_owns hown2
    exact ⟨g', cap', rfl, (Upd.refl [] w).below hb, hro.1, hro.2.2.1⟩
theorem dedupF_mem (l : List K) (x : K) : x ∈ dedupF l ↔ x ∈ l := by
  have key : ∀ (l R : List K), x ∈ l.foldl dstep R ↔ (x ∈ R ∨ x ∈ l) := by
    intro l
    induction l with
    | nil => intro R; simp
    | cons y l ih =>
      intro R
      rw [List.foldl_cons, ih, List.mem_cons]
      unfold dstep
      split
      · rename_i h
        have : y ∈ R := List.mem_of_getLast? h
        constructor
        · rintro (h1 | h1)
          · exact .inl h1
          · exact .inr (.inr h1)
        · rintro (h1 | rfl | h1)
          · exact .inl h1
          · exact .inl this
          · exact .inr h1
      · simp only [List.mem_append, List.mem_singleton, or_assoc]
  simpa [dedupF] using key l []
theorem dedupF_sorted (l : List K) (h : l.Pairwise (fun a b => ¬ (b.1 < a.1))) : (dedupF l).Pairwise (fun a b => a.1 < b.1) := by
  have key : ∀ (l R : List K), R.Pairwise (fun a b => a.1 < b.1) → l.Pairwise (fun a b => ¬ (b.1 < a.1)) → (∀ a ∈ R, ∀ b ∈ l, ¬ (b.1 < a.1)) → (l.foldl dstep R).Pairwise (fun a b => a.1 < b.1) := by
    intro l
    induction l with
    | nil => intro R h _ _; exact h
    | cons y l ih =>
      intro R hR hl hRl
      rw [List.foldl_cons]
      obtain ⟨h1, h2⟩ := List.pairwise_cons.1 hl
      unfold dstep
      split
      · exact ih R hR h2 (fun a ha b hb => hRl a ha b (List.mem_cons_of_mem _ hb))
      · rename_i hne
        refine ih _ ?_ h2 ?_
        · rw [List.pairwise_append]
          refine ⟨hR, List.pairwise_singleton _ _, ?_⟩
          intro a ha b hb
          rw [List.mem_singleton] at hb
          subst hb
          have h3 := hRl a ha b (by simp)
          have h4 : a ≠ b → a.1 < b.1 := by
            intro hab
            rcases List.le_iff_lt_or_eq.1 (List.not_lt.1 h3) with h5 | h5
            · exact h5
            · exact absurd (Subtype.ext h5) hab
          apply h4
          intro hab
          subst hab
          obtain ⟨R', z, rfl⟩ : ∃ R' z, R = R' ++ [z] := by
            rcases List.eq_nil_or_concat R with rfl | ⟨R', z, rfl⟩
            · simp at ha
            · exact ⟨R', z, by simp⟩
          rw [List.getLast?_append, List.getLast?_singleton] at hne
          have hza : z ≠ a := by intro e; apply hne; simp [e]
          have ha' : a ∈ R' := by
            rcases List.mem_append.1 ha with h6 | h6
            · exact h6
            · exact absurd (List.mem_singleton.1 h6).symm hza
          have h7 : a.1 < z.1 := (List.pairwise_append.1 hR).2.2 a ha' z (by simp)
          exact hRl z (by simp) a (by simp) h7
        · intro a ha b hb
          rcases List.mem_append.1 ha with h6 | h6
          · exact hRl a h6 b (List.mem_cons_of_mem _ hb)
          · rw [List.mem_singleton.1 h6]; exact h1 b hb
  exact key l [] List.Pairwise.nil h (by simp)
/-- Keys, in their order, each once. -/
def setF (l : List K) : List K := dedupF (sortF l)
theorem setF_mem (l : List K) (x : K) : x ∈ setF l ↔ x ∈ l := by rw [setF, dedupF_mem]; exact (sortF_perm l).mem_iff
theorem setF_sorted (l : List K) : (setF l).Pairwise (fun a b => a.1 < b.1) := dedupF_sorted _ (sortF_sorted l)
theorem setF_len (l : List K) : (setF l).length ≤ l.length := by have := dedupF_len (sortF l); rw [sortF_len] at this; exact this
theorem sorted_unique : ∀ (a b : List K), a.Pairwise (fun a b => a.1 < b.1) → b.Pairwise (fun a b => a.1 < b.1) → (∀ x, x ∈ a ↔ x ∈ b) → a = b := by
  intro a
  induction a with
  | nil =>
    intro b _ _ h
    cases b with
    | nil => rfl
    | cons y b => have := (h y).2 (by simp); simp at this
  | cons x a ih =>
    intro b ha hb h
    cases b with
    | nil => have := (h x).1 (by simp); simp at this
    | cons y b =>
      obtain ⟨a1, a2⟩ := List.pairwise_cons.1 ha
      obtain ⟨b1, b2⟩ := List.pairwise_cons.1 hb
      have e : x = y := by
        rcases List.mem_cons.1 ((h x).1 (by simp)) with e | e
        · exact e
        · rcases List.mem_cons.1 ((h y).2 (by simp)) with e2 | e2
          · exact e2.symm
          · exact absurd (List.lt_trans (b1 x e) (a1 y e2)) (by simp)
      subst e
      rw [ih b a2 b2]
      intro z
      constructor
      · intro hz
        rcases List.mem_cons.1 ((h z).1 (by simp [hz])) with e | e
        · subst e; exact absurd (a1 z hz) (by simp)
        · exact e
      · intro hz
        rcases List.mem_cons.1 ((h z).2 (by simp [hz])) with e | e
        · subst e; exact absurd (b1 z hz) (by simp)
        · exact e
theorem setF_eq {l s : List K} (hs : s.Pairwise (fun a b => a.1 < b.1)) (h : ∀ x, x ∈ s ↔ x ∈ l) : setF l = s :=
  sorted_unique _ _ (setF_sorted l) hs (fun x => by rw [setF_mem, h])
theorem setF_nil {l : List K} (h : 1 ≤ l.length) : 1 ≤ (setF l).length := by
  match l, h with
  | x :: l, _ =>
    have : x ∈ setF (x :: l) := (setF_mem _ _).2 (by simp)
    exact List.length_pos_of_mem this
set_option maxHeartbeats 1000000 in
theorem set46 (g cap : Nat) (l : List K) (w : World) (hr : RowK w g cap l) (hl : l.length ≤ 12) (h0 : 1 ≤ l.length) :
    Calls Tryz.prog 46 #[.slice (some ⟨g, 0, none⟩) l.length cap] w fun e w' => ∃ g' cap', e = .returned (.slice (some ⟨g', 0, none⟩) (setF l).length cap') ∧ Upd [] w w' ∧ RowK w' g' cap' (setF l) ∧ w.heap.size ≤ g' := by
  have c1 := clone66 g cap l w hr (by omega) h0
  have hl2 := sortF_len l
  have c2 : ∀ (g1 cap1 : Nat) (w1 : World), RowK w1 g1 cap1 l → Calls Tryz.prog 67 #[.slice (some ⟨g1, 0, none⟩) l.length cap1, .func (.func 68) #[] #[]] w1 fun e w' => e = .returned (.tuple #[]) ∧ Upd [g1] w1 w' ∧ RowK w' g1 cap1 (sortF l) :=
    fun g1 cap1 w1 h => sort67 g1 cap1 l w1 h hl
  have c3 : ∀ (g1 cap1 : Nat) (w1 : World), RowK w1 g1 cap1 (sortF l) → Calls Tryz.prog 69 #[.slice (some ⟨g1, 0, none⟩) l.length cap1] w1 fun e w' => e = .returned (.slice (some ⟨g1, 0, none⟩) (dedupF (sortF l)).length cap1) ∧ Upd [g1] w1 w' ∧ RowK w' g1 cap1 (dedupF (sortF l)) := by
    intro g1 cap1 w1 h
    have := compact69 g1 cap1 (sortF l) w1 h (by omega)
    rw [hl2] at this
    exact this
  clear hr hl h0 hl2
  go_enter Tryz.func46, Tryz.ntmps46
  go_wp2_with (first
    | (go_at_call 66; refine c1.mono ?_; rintro e w1 ⟨g1, cap1, rfl, hu1, hr1, hg1⟩; have HR1 := Lib.hid hr1; clear hr1)
    | (go_at_call 67; refine (c2 _ _ _ HR1.out).mono ?_; rintro e w2 ⟨rfl, hu2, hr2⟩; have HR2 := Lib.hid hr2; clear hr2)
    | (go_at_call 69; refine (c3 _ _ _ HR2.out).mono ?_; rintro e w3 ⟨rfl, hu3, hr3⟩; have HR3 := Lib.hid hr3; clear hr3))
  go_ret
  refine ⟨g1, cap1, rfl, hu1.trans' (hu2.trans hu3) (by simp only [List.mem_singleton]; omega), HR3.out, hg1⟩
end Go.Proofs.YtdbceafejbnebaaGreatDoor
/-! Books in memory. -/
namespace Go.Proofs.YtdbceafejbnebaaGreatDoor
open Go Go.RowKit

/-- An account's keys, and how it stands. -/
structure Con where
  ks : List K
  hs : List Bool
  st : UInt8
  hk : ks.length = 4
  hh : hs.length = 4
def conCells (c : Con) : List Value := c.ks.flatMap keyCells ++ (c.hs.map Value.bool ++ [byteV c.st])
theorem conCells_len (c : Con) : (conCells c).length = 133 := by
  unfold conCells
  rw [List.length_append, flat_len, List.length_append, List.length_map, c.hk, c.hh]
  rfl
theorem conCells_one (c : Con) : ∀ v ∈ conCells c, v.oneCell' = true := by
  intro v hv
  unfold conCells at hv
  rw [List.mem_append, List.mem_append] at hv
  rcases hv with hv | hv | hv
  · obtain ⟨k, _, hk⟩ := List.mem_flatMap.1 hv
    exact keyCells_one k v hk
  · obtain ⟨b, _, rfl⟩ := List.mem_map.1 hv
    rfl
  · rw [List.mem_singleton] at hv
    subst hv
    rfl
def ConAt (w : World) (p : Nat) (c : Con) : Prop := w.heap[p]? = some (.cells (conCells c).toArray 82 (0, 0))
theorem ConAt.key {w : World} {p : Nat} {c : Con} (h : ConAt w p c) (d : Nat) (hd : d < 4) : w.rangeAt p (d * 32) (keyCells (c.ks[d]'(by rw [c.hk]; exact hd))) := by
  intro j v hj
  have hj32 : j < 32 := by have := (List.getElem?_eq_some_iff.1 hj).1; rwa [keyCells_len] at this
  rw [cell_of_heap h]
  simp only [List.getElem?_toArray]
  unfold conCells
  rw [List.getElem?_append_left (by rw [flat_len, c.hk]; omega), flat_at c.ks d j (by rw [c.hk]; exact hd) hj32, hj]
theorem ConAt.has {w : World} {p : Nat} {c : Con} (h : ConAt w p c) (d : Nat) (hd : d < 4) : w.cell? ⟨p, 128 + d, none⟩ = some (.bool (c.hs[d]'(by rw [c.hh]; exact hd))) := by
  rw [cell_of_heap h]
  simp only [List.getElem?_toArray]
  unfold conCells
  rw [List.getElem?_append_right (by rw [flat_len, c.hk]; omega), flat_len, c.hk, List.getElem?_append_left (by rw [List.length_map, c.hh]; omega), show 128 + d - 4 * 32 = d by omega, List.getElem?_map, List.getElem?_eq_getElem (by rw [c.hh]; exact hd)]
  rfl
theorem ConAt.state {w : World} {p : Nat} {c : Con} (h : ConAt w p c) : w.cell? ⟨p, 132, none⟩ = some (byteV c.st) := by
  rw [cell_of_heap h]
  simp only [List.getElem?_toArray]
  unfold conCells
  rw [List.getElem?_append_right (by rw [flat_len, c.hk]; omega), flat_len, c.hk, List.getElem?_append_right (by rw [List.length_map, c.hh]; omega), List.length_map, c.hh]
  rfl
theorem ConAt.free {w : World} {p : Nat} {c : Con} (h : ConAt w p c) (o : Nat) : w.frozen? ⟨p, o, none⟩ = false := free_of_heap h o

/-- The map r tells of each account where it lies. -/
def MapAt (w : World) (r : Nat) (m : List (UInt8 × Nat)) : Prop :=
  ∃ es clock, w.heap[r]? = some (.map es clock) ∧ es.toList.map (fun e => (e.key, e.val)) = m.map (fun x => (byteV x.1, Value.pointer (some ⟨x.2, 0, none⟩)))
/-- What a list tells of an account. -/
def look {β : Type} (a : UInt8) : List (UInt8 × β) → Option β
  | [] => none
  | x :: m => if a = x.1 then some x.2 else look a m
def ptrOf (o : Option Nat) : Value := .pointer (o.map fun p => ⟨p, 0, none⟩)
theorem findNow_map (a : UInt8) : ∀ (es : List MapEntry) (m : List (UInt8 × Nat)) (i : Nat), es.map (fun e => (e.key, e.val)) = m.map (fun x => (byteV x.1, Value.pointer (some ⟨x.2, 0, none⟩))) →
    ∃ r, Instr.findNow (.int .u8) (byteV a) es i = some r ∧ r.map (·.2) = (look a m).map (fun p => Value.pointer (some ⟨p, 0, none⟩)) := by
  intro es
  induction es with
  | nil =>
    intro m i h
    cases m with
    | nil => exact ⟨none, rfl, rfl⟩
    | cons x m => simp at h
  | cons e es ih =>
    intro m i h
    cases m with
    | nil => simp at h
    | cons x m =>
      simp only [List.map_cons, List.cons.injEq, Prod.mk.injEq] at h
      obtain ⟨⟨h1, h2⟩, h3⟩ := h
      rw [Instr.findNow, h1]
      by_cases hx : a = x.1
      · subst hx
        simp [Instr.sameNow, byteV, h2, look]
      · have hne : ((a.toNat : Int) == (x.1.toNat : Int)) = false := by
          simp only [beq_eq_false_iff_ne, ne_eq]
          intro e
          exact hx (UInt8.toNat_inj.1 (by omega))
        obtain ⟨r, hr1, hr2⟩ := ih m (i + 1) h3
        refine ⟨r, ?_, ?_⟩
        · simp [Instr.sameNow, byteV, hne] at hr1 ⊢
          exact hr1
        · rw [hr2, look, if_neg hx]
theorem zero77 (w : World) : (zeroValue 77).run Tryz.prog w = .ok (.pointer none) w := by kernel_rfl
theorem check5 (e : Bool) (a : UInt8) (w : World) : (Instr.checkKey e 10000 5 (byteV a)).run Tryz.prog w = .ok () w := by
  rw [Instr.checkKey]
  simp only [Sem.run_bind, run_underlying Tryz.underlying5, Result.andThen_ok]
  rfl
theorem find_map {w : World} {es : Array MapEntry} {m : List (UInt8 × Nat)} (h : es.toList.map (fun e => (e.key, e.val)) = m.map (fun x => (byteV x.1, Value.pointer (some ⟨x.2, 0, none⟩)))) (a : UInt8) :
    ∃ r, (Instr.findKey 5 (byteV a) es.toList).run Tryz.prog w = .ok r w ∧ r.map (·.2) = (look a m).map (fun p => Value.pointer (some ⟨p, 0, none⟩)) := by
  obtain ⟨r, h1, h2⟩ := findNow_map a es.toList m 0 h
  refine ⟨r, ?_, h2⟩
  unfold Instr.findKey
  simp only [Sem.run_bind, run_underlying Tryz.underlying5, Result.andThen_ok, h1]
  rfl
theorem MapAt.lookup {w : World} {r : Nat} {m : List (UInt8 × Nat)} (h : MapAt w r m) (a : UInt8) : (Instr.lookup 78 (.map (some r)) (byteV a) false).run Tryz.prog w = .ok (ptrOf (look a m)) w := by
  obtain ⟨es, clock, h1, h2⟩ := h
  obtain ⟨q, h3, h4⟩ := find_map (w := w) h2 a
  unfold Instr.lookup
  simp only [Sem.run_bind, run_underlying Tryz.underlying78, Result.andThen_ok, MapKept.run_getObj_map h1, Sem.run_pure, check5, h3]
  cases q with
  | none =>
    have : look a m = none := by
      cases hl : look a m with
      | none => rfl
      | some p => rw [hl] at h4; simp at h4
    rw [this]
    simp only [Sem.run_bind, zero77, Result.andThen_ok, Sem.run_pure]
    rfl
  | some q =>
    cases hl : look a m with
    | none => rw [hl] at h4; simp at h4
    | some p =>
      rw [hl] at h4
      simp only [Option.map_some, Option.some.injEq] at h4
      obtain ⟨i, v⟩ := q
      simp only at h4
      subst h4
      rfl
theorem MapAt.update {w : World} {r : Nat} {m : List (UInt8 × Nat)} (h : MapAt w r m) (a : UInt8) (ha : look a m = none) (p : Nat) :
    ∃ w', (Instr.mapUpdate 78 (.map (some r)) (byteV a) (.pointer (some ⟨p, 0, none⟩))).run Tryz.prog w = .ok () w' ∧ MapAt w' r (m ++ [(a, p)]) ∧ Upd [r] w w' := by
  obtain ⟨es, clock, h1, h2⟩ := h
  obtain ⟨q, h3, h4⟩ := find_map (w := w) h2 a
  rw [ha] at h4
  have hq : q = none := by cases q with
    | none => rfl
    | some q => simp at h4
  subst hq
  have hlt := lt_of_heap h1
  refine ⟨{ w with heap := w.heap.setIfInBounds r (.map (es.push { key := byteV a, val := .pointer (some ⟨p, 0, none⟩), born := clock }) (clock + 1)) }, ?_, ⟨es.push { key := byteV a, val := .pointer (some ⟨p, 0, none⟩), born := clock }, clock + 1, ?_, ?_⟩, ?_⟩
  · unfold Instr.mapUpdate
    simp only [Sem.run_bind, run_underlying Tryz.underlying78, Result.andThen_ok, MapKept.run_getObj_map h1, check5, h3, MapKept.run_setObj_map _ h1]
  · show (w.heap.setIfInBounds r _)[r]? = _
    rw [Array.getElem?_setIfInBounds_self_of_lt hlt]
  · rw [Array.toList_push, List.map_append, h2, List.map_append]
    rfl
  · refine ⟨rfl, rfl, rfl, by simp, fun k hk hr => ?_⟩
    show (w.heap.setIfInBounds r _)[k]? = _
    rw [Array.getElem?_setIfInBounds_ne (by intro e; exact hr (by simp [e]))]
theorem MapAt.upd {S : List Nat} {w w' : World} {r : Nat} {m : List (UInt8 × Nat)} (h : MapAt w r m) (hu : Upd S w w') (hS : r ∉ S) : MapAt w' r m := by
  obtain ⟨es, clock, h1, h2⟩ := h
  exact ⟨es, clock, hu.heap h1 hS, h2⟩
theorem RowK.upd {S : List Nat} {w w' : World} {g cap : Nat} {l : List K} (h : RowK w g cap l) (hu : Upd S w w') (hS : g ∉ S) : RowK w' g cap l := by
  obtain ⟨sp, h1, h2, h3⟩ := h
  exact ⟨sp, hu.heap h1 hS, h2, h3⟩
theorem ConAt.upd {S : List Nat} {w w' : World} {p : Nat} {c : Con} (h : ConAt w p c) (hu : Upd S w w') (hS : p ∉ S) : ConAt w' p c := hu.heap h hS
abbrev Cs := List (UInt8 × Nat × Con)
def Cs.ptrs (m : Cs) : List (UInt8 × Nat) := m.map fun x => (x.1, x.2.1)
/-- Block b is a book. -/
structure BookAt (w : World) (b g cap r : Nat) (acct : UInt8) (own : List K) (m : Cs) : Prop where
  cell : w.heap[b]? = some (.cells #[byteV acct, .slice (some ⟨g, 0, none⟩) own.length cap, .map (some r)] 80 (0, 0))
  row : RowK w g cap own
  map : MapAt w r m.ptrs
  con : ∀ x ∈ m, ConAt w x.2.1 x.2.2
  apart : (m.map (·.2.1)).Nodup
theorem BookAt.upd {S : List Nat} {w w' : World} {b g cap r : Nat} {acct : UInt8} {own : List K} {m : Cs} (h : BookAt w b g cap r acct own m) (hu : Upd S w w') (h1 : b ∉ S) (h2 : g ∉ S) (h3 : r ∉ S) (h4 : ∀ x ∈ m, x.2.1 ∉ S) : BookAt w' b g cap r acct own m :=
  ⟨hu.heap h.cell h1, h.row.upd hu h2, h.map.upd hu h3, fun x hx => (h.con x hx).upd hu (h4 x hx), h.apart⟩
theorem BookAt.upd0 {w w' : World} {b g cap r : Nat} {acct : UInt8} {own : List K} {m : Cs} (h : BookAt w b g cap r acct own m) (hu : Upd [] w w') : BookAt w' b g cap r acct own m :=
  h.upd hu (by simp) (by simp) (by simp) (by simp)
end Go.Proofs.YtdbceafejbnebaaGreatDoor
/-! Books: may, State. -/
namespace Go.Proofs.YtdbceafejbnebaaGreatDoor
open Go Go.RowKit
def bookV (b : Nat) : Value := .pointer (some ⟨b, 0, none⟩)
def devV (a d : UInt8) : Value := .agg #[byteV a, byteV d]
set_option maxHeartbeats 400000 in
theorem may_nil (a d : UInt8) (w : World) : Calls Tryz.prog 47 #[.pointer none, devV a d] w fun e w' => e = .returned (.int .i64 1) ∧ Upd [] w w' := by
  unfold devV byteV
  go_enter Tryz.func47, Tryz.ntmps47
  go_wp2
  go_ret
  exact ⟨rfl, (Upd.refl [] w).alloc _⟩
def mayE (acct a d : UInt8) : Int := if 8 ≤ a.toNat ∨ 4 ≤ d.toNat ∨ a = acct then 2 else 0
theorem Upd.new (w : World) (o : Obj) : Upd [] w (w.alloc o) := (Upd.refl [] w).alloc o
set_option maxHeartbeats 1000000 in
theorem may_book {w : World} {b g cap r : Nat} {acct : UInt8} {own : List K} {m : Cs} (hb : BookAt w b g cap r acct own m) (a d : UInt8) :
    Calls Tryz.prog 47 #[bookV b, devV a d] w fun e w' => e = .returned (.int .i64 (mayE acct a d)) ∧ Upd [] w w' := by
  have hc := hb.cell
  have hl := lt_of_heap hc
  have hc2 : ∀ o, (w.alloc o).cell? ⟨b, 0, none⟩ = some (.int .u8 (acct.toNat : Int)) := by
    intro o
    rw [cell_of_heap (by rw [Below.heap_alloc _ _ _ hl]; exact hc)]
    rfl
  clear hb hc hl
  unfold devV bookV byteV
  by_cases h1 : 8 ≤ a.toNat
  · have h1' : (8 : Int) ≤ (a.toNat : Int) := by omega
    have he : mayE acct a d = 2 := by simp [mayE, h1]
    go_enter Tryz.func47, Tryz.ntmps47
    go_wp2
    go_quiet (fail)
    go_wp2
    go_ret
    exact ⟨by rw [he]; rfl, (Upd.new w _).drewN _⟩
  · have h1' : decide ((8 : Int) ≤ (a.toNat : Int)) = false := by simp; omega
    by_cases h2 : 4 ≤ d.toNat
    · have h2' : (4 : Int) ≤ (d.toNat : Int) := by omega
      have he : mayE acct a d = 2 := by simp [mayE, h2]
      go_enter Tryz.func47, Tryz.ntmps47
      go_wp2
      go_quiet (fail)
      go_wp2
      go_ret
      exact ⟨by rw [he]; rfl, (Upd.new w _).drewN _⟩
    · have h2' : decide ((4 : Int) ≤ (d.toNat : Int)) = false := by simp; omega
      by_cases h3 : a = acct
      · have he : mayE acct a d = 2 := by simp [mayE, h3]
        subst h3
        go_enter Tryz.func47, Tryz.ntmps47
        go_wp2
        go_quiet (fail)
        go_wp2
        go_ret
        exact ⟨by rw [he]; rfl, (Upd.new w _).drewN _⟩
      · have he : mayE acct a d = 0 := by simp [mayE, h1, h2, h3]
        have h3' : ((a.toNat : Int) == (acct.toNat : Int)) = false := by rw [beq_eq_false_iff_ne]; exact fun e => h3 (UInt8.toNat_inj.1 (by omega))
        go_enter Tryz.func47, Tryz.ntmps47
        go_wp2
        go_quiet (fail)
        go_wp2
        go_ret
        exact ⟨by rw [he]; rfl, (Upd.new w _).drewN _⟩
/-- How an account stands. -/
def stOf (m : Cs) (a : UInt8) : UInt8 := ((look a m).map fun x => x.2.st).getD 0
theorem state_nil (a : UInt8) (w : World) : Calls Tryz.prog 14 #[.pointer none, byteV a] w fun e w' => e = .returned (byteV 0) ∧ Upd [] w w' := by
  unfold byteV
  go_enter Tryz.func14, Tryz.ntmps14
  go_wp2
  go_ret
  exact ⟨rfl, Upd.refl [] w⟩
theorem look_mem {β : Type} {a : UInt8} {m : List (UInt8 × β)} {x : β} (h : look a m = some x) : (a, x) ∈ m := by
  induction m with
  | nil => simp [look] at h
  | cons y m ih =>
    rw [look] at h
    split at h
    · rename_i e
      simp only [Option.some.injEq] at h
      subst h e
      simp
    · exact List.mem_cons_of_mem _ (ih h)
theorem look_map {β γ : Type} (f : β → γ) (a : UInt8) (m : List (UInt8 × β)) : look a (m.map fun x => (x.1, f x.2)) = (look a m).map f := by
  induction m with
  | nil => rfl
  | cons y m ih =>
    rw [List.map_cons, look, look]
    split
    · rfl
    · exact ih
theorem look_ptrs (a : UInt8) (m : Cs) : look a m.ptrs = (look a m).map (·.1) := look_map (fun x : Nat × Con => x.1) a m
set_option maxHeartbeats 1000000 in
theorem state_book {w : World} {b g cap r : Nat} {acct : UInt8} {own : List K} {m : Cs} (hb : BookAt w b g cap r acct own m) (a : UInt8) :
    Calls Tryz.prog 14 #[bookV b, byteV a] w fun e w' => e = .returned (byteV (stOf m a)) ∧ w' = w := by
  have hc : w.cell? ⟨b, 2, none⟩ = some (.map (some r)) := by rw [cell_of_heap hb.cell]; rfl
  have hlk := hb.map.lookup a
  rw [look_ptrs] at hlk
  cases hl : look a m with
  | none =>
    rw [hl] at hlk
    have he : stOf m a = 0 := by simp [stOf, hl]
    rw [he]
    clear hb
    simp only [Option.map_none, ptrOf] at hlk
    unfold bookV byteV at *
    go_enter Tryz.func14, Tryz.ntmps14
    go_wp2
    go_ret
    exact ⟨rfl, rfl⟩
  | some x =>
    rw [hl] at hlk
    have he : stOf m a = x.2.st := by simp [stOf, hl]
    have hs := (hb.con _ (look_mem hl)).state
    rw [he]
    clear hb hl he
    simp only [Option.map_some, ptrOf] at hlk hs
    unfold bookV byteV at *
    go_enter Tryz.func14, Tryz.ntmps14
    go_wp2
    go_ret
    exact ⟨rfl, rfl⟩
end Go.Proofs.YtdbceafejbnebaaGreatDoor
