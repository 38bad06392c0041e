/- What the document's Load comes to, in plain words; it answers as trust.Load does. -/
import Derived.Test.YtdbceafejbnebaaGreatDoorM11
namespace Go.Proofs.YtdbceafejbnebaaGreatDoor
open Go Go.RowKit
/-- An account, as the document keeps it. -/
structure RC where
  hs : List Bool
  ks : List K
  st : UInt8
  hh : hs.length = 4
  hk : ks.length = 4
def zRC : RC := ⟨[false, false, false, false], [zeroK, zeroK, zeroK, zeroK], 0, rfl, rfl⟩
abbrev Rb := UInt8 → RC
def Rb.put (ρ : Rb) (a : UInt8) (c : RC) : Rb := fun a' => if a' = a then c else ρ a'
def rlearnC (c : RC) (d : Nat) (k : K) : RC where
  hs := c.hs.set d true
  ks := c.ks.set d k
  st := if c.st = 2 ∧ ¬ (c.hs[d]? = some true ∧ c.ks[d]? = some k) then 3 else if c.st = 0 then 1 else c.st
  hh := by rw [List.length_set]; exact c.hh
  hk := by rw [List.length_set]; exact c.hk
def RC.setSt (c : RC) (s : UInt8) : RC := { c with st := s }
def rlearn (acct : UInt8) (ρ : Rb) (a d : UInt8) (k : K) : Option Rb := if mayE acct a d = 0 then some (ρ.put a (rlearnC (ρ a) d.toNat k)) else none
def rkns (acct : UInt8) (ρ : Rb) (a : UInt8) (l : List Kn) : Option Rb := l.foldlM (fun ρ x => rlearn acct ρ a x.1 x.2) ρ
def rone (acct : UInt8) (ρ : Rb) (x : One) : Option Rb :=
  (rkns acct ρ x.1 x.2.2).bind fun ρ' => if x.1.toNat < 8 ∧ (1 ≤ x.2.1.toNat ∧ x.2.1.toNat ≤ 3) ∧ x.2.2 ≠ [] then some (ρ'.put x.1 ((ρ' x.1).setSt x.2.1)) else none
def rones (acct : UInt8) (ρ : Rb) (l : List One) : Option Rb := l.foldlM (rone acct) ρ
def rkn (c : RC) : List Kn := (List.range 4).filterMap fun d => if c.hs[d]? = some true then c.ks[d]?.map fun x => (UInt8.ofNat d, x) else none
def onesRb (ρ : Rb) : List One := (List.range 8).filterMap fun a => if rkn (ρ (UInt8.ofNat a)) = [] then none else some (UInt8.ofNat a, (ρ (UInt8.ofNat a)).st, rkn (ρ (UInt8.ofNat a)))
def refB (acct : UInt8) (own : List K) (ρ : Rb) : List UInt8 := [acct] ++ (lenB (setF own).length ++ keysB (setF own)) ++ (lenB (onesRb ρ).length ++ onesB (onesRb ρ))
def noneR : Rb := fun _ => zRC
/-- What the document's Load makes of bytes. -/
def refM (xs : List UInt8) : Option (UInt8 × List K × Rb) :=
  (partsGo xs).bind fun q => if q.1.toNat < 8 ∧ 1 ≤ q.2.1.length then
    (rones q.1 noneR q.2.2).bind fun ρ => if refB q.1 q.2.1 ρ = xs then some (q.1, q.2.1, ρ) else none
  else none

def toRC : Option Con → RC
  | none => zRC
  | some c => ⟨c.hs, c.ks, c.st, c.hh, c.hk⟩
/-- The two books stand alike. -/
structure Alike (μ : Bk) (ρ : Rb) : Prop where
  same : ∀ a, ρ a = toRC (μ a)
  good : ∀ a c, μ a = some c → c.st ≠ 0 ∧ conKn c ≠ [] ∧ a.toNat < 8
theorem learnC_kn (c : Con) (d : Nat) (hd : d < 4) (k : K) : conKn (learnC c d k) ≠ [] := by
  unfold conKn conUpto
  intro h
  rw [List.filterMap_eq_nil_iff] at h
  have h1 := h d (by simp [hd])
  have e1 : (learnC c d k).hs[d]? = some true := by
    show (c.hs.set d true)[d]? = _
    rw [List.getElem?_set_self (by rw [c.hh]; exact hd)]
  have e2 : (learnC c d k).ks[d]? = some k := by
    show (c.ks.set d k)[d]? = _
    rw [List.getElem?_set_self (by rw [c.hk]; exact hd)]
  simp [e1, e2] at h1
theorem learn_alike {μ : Bk} {ρ : Rb} (h : Alike μ ρ) (acct a d : UInt8) (k : K) :
    (learnM acct μ a d k = none ∧ rlearn acct ρ a d k = none) ∨ ∃ μ' ρ', learnM acct μ a d k = some μ' ∧ rlearn acct ρ a d k = some ρ' ∧ Alike μ' ρ' ∧ a.toNat < 8 ∧ (μ' a).isSome = true := by
  unfold learnM rlearn
  by_cases hm : mayE acct a d = 0
  · rw [if_pos hm, if_pos hm]
    have hm' : ¬ (8 ≤ a.toNat ∨ 4 ≤ d.toNat ∨ a = acct) := by
      intro q
      unfold mayE at hm
      rw [if_pos q] at hm
      cases hm
    have ha : a.toNat < 8 := by omega
    have hd : d.toNat < 4 := by omega
    refine .inr ⟨_, _, rfl, rfl, ⟨?_, ?_⟩, ha, by simp [Bk.put]⟩
    · intro a'
      unfold Bk.put Rb.put
      by_cases e : a' = a
      · rw [if_pos e, if_pos e, h.same a]
        cases hμ : μ a with
        | none => simp [toRC, rlearnC, learnC, newCon, zRC]
        | some c =>
          have := (h.good a c hμ).1
          simp [toRC, rlearnC, learnC, this]
      · rw [if_neg e, if_neg e, h.same a']
    · intro a' c hc
      unfold Bk.put at hc
      by_cases e : a' = a
      · rw [if_pos e] at hc
        cases hc
        refine ⟨?_, learnC_kn _ _ hd _, by rw [e]; exact ha⟩
        show (if _ then (3 : UInt8) else _) ≠ 0
        split
        · decide
        · cases hμ : μ a with
          | none => simp [newCon]
          | some c => exact (h.good a c hμ).1
      · rw [if_neg e] at hc
        exact h.good a' c hc
  · rw [if_neg hm, if_neg hm]
    exact .inl ⟨rfl, rfl⟩
theorem kns_alike {acct a : UInt8} : ∀ (l : List Kn) {μ : Bk} {ρ : Rb}, Alike μ ρ →
    (knsM acct μ a l = none ∧ rkns acct ρ a l = none) ∨ ∃ μ' ρ', knsM acct μ a l = some μ' ∧ rkns acct ρ a l = some ρ' ∧ Alike μ' ρ' ∧ (l ≠ [] → a.toNat < 8 ∧ (μ' a).isSome = true) := by
  intro l
  induction l with
  | nil => intro μ ρ h; exact .inr ⟨μ, ρ, rfl, rfl, h, fun q => absurd rfl q⟩
  | cons x l ih =>
    intro μ ρ h
    have e1 : knsM acct μ a (x :: l) = (learnM acct μ a x.1 x.2).bind fun μ' => knsM acct μ' a l := rfl
    have e2 : rkns acct ρ a (x :: l) = (rlearn acct ρ a x.1 x.2).bind fun ρ' => rkns acct ρ' a l := rfl
    rw [e1, e2]
    rcases learn_alike h acct a x.1 x.2 with ⟨h1, h2⟩ | ⟨μ', ρ', h1, h2, h3, h4, h5⟩
    · rw [h1, h2]; exact .inl ⟨rfl, rfl⟩
    · rw [h1, h2]
      rcases ih h3 with ⟨g1, g2⟩ | ⟨μ2, ρ2, g1, g2, g3, g4⟩
      · exact .inl ⟨g1, g2⟩
      · refine .inr ⟨μ2, ρ2, g1, g2, g3, fun _ => ⟨h4, ?_⟩⟩
        cases l with
        | nil => cases g1; exact h5
        | cons y l => exact (g4 (by simp)).2
theorem rone_one {acct : UInt8} {x : One} {μ : Bk} {ρ ρ' : Rb} (h : Alike μ ρ) (hr : rone acct ρ x = some ρ') : ∃ μ', oneM acct μ x = some μ' ∧ Alike μ' ρ' := by
  unfold rone at hr
  unfold oneM
  rcases kns_alike (acct := acct) (a := x.1) x.2.2 h with ⟨h1, h2⟩ | ⟨μ', ρ1, h1, h2, h3, h4⟩
  · rw [h2] at hr; cases hr
  · rw [h2, Option.bind_some] at hr
    rw [h1, Option.bind_some]
    split at hr
    · rename_i hc
      cases hr
      obtain ⟨c, hcc⟩ := Option.isSome_iff_exists.1 (h4 hc.2.2).2
      rw [hcc, Option.bind_some, if_pos hc.2.1]
      refine ⟨_, rfl, ?_, ?_⟩
      · intro a'
        unfold Bk.put Rb.put
        by_cases e : a' = x.1
        · rw [if_pos e, if_pos e, h3.same, hcc]; rfl
        · rw [if_neg e, if_neg e, h3.same]
      · intro a' c' hc'
        unfold Bk.put at hc'
        by_cases e : a' = x.1
        · rw [if_pos e] at hc'
          cases hc'
          have := h3.good _ _ hcc
          refine ⟨?_, this.2.1, by rw [e]; exact this.2.2⟩
          show x.2.1 ≠ 0
          intro q
          have := hc.2.1.1
          rw [q] at this
          exact absurd this (by decide)
        · rw [if_neg e] at hc'
          exact h3.good a' c' hc'
    · cases hr
theorem one_rone {acct : UInt8} {x : One} {μ μ' : Bk} {ρ : Rb} (h : Alike μ ρ) (hx : x.2.2 ≠ []) (hr : oneM acct μ x = some μ') : ∃ ρ', rone acct ρ x = some ρ' ∧ Alike μ' ρ' := by
  have hr0 := hr
  unfold oneM at hr
  rcases kns_alike (acct := acct) (a := x.1) x.2.2 h with ⟨h1, h2⟩ | ⟨μ1, ρ1, h1, h2, h3, h4⟩
  · rw [h1] at hr; cases hr
  · rw [h1, Option.bind_some] at hr
    obtain ⟨c, hcc⟩ := Option.isSome_iff_exists.1 (h4 hx).2
    rw [hcc, Option.bind_some] at hr
    split at hr
    · rename_i hc
      have e : rone acct ρ x = some (ρ1.put x.1 ((ρ1 x.1).setSt x.2.1)) := by
        unfold rone
        rw [h2, Option.bind_some, if_pos ⟨(h4 hx).1, hc, hx⟩]
      obtain ⟨μ2, g1, g2⟩ := rone_one h e
      rw [hr0] at g1
      cases g1
      exact ⟨_, e, g2⟩
    · cases hr
theorem rones_ones {acct : UInt8} : ∀ (l : List One) {μ : Bk} {ρ ρ' : Rb}, Alike μ ρ → rones acct ρ l = some ρ' → ∃ μ', onesM acct μ l = some μ' ∧ Alike μ' ρ' := by
  intro l
  induction l with
  | nil => intro μ ρ ρ' h hr; cases hr; exact ⟨μ, rfl, h⟩
  | cons x l ih =>
    intro μ ρ ρ' h hr
    have e1 : onesM acct μ (x :: l) = (oneM acct μ x).bind fun μ' => onesM acct μ' l := rfl
    have e2 : rones acct ρ (x :: l) = (rone acct ρ x).bind fun ρ' => rones acct ρ' l := rfl
    rw [e2] at hr
    rw [e1]
    cases h1 : rone acct ρ x with
    | none => rw [h1] at hr; cases hr
    | some ρ1 =>
      rw [h1, Option.bind_some] at hr
      obtain ⟨μ1, h2, h3⟩ := rone_one h h1
      rw [h2, Option.bind_some]
      exact ih h3 hr
theorem ones_rones {acct : UInt8} : ∀ (l : List One) {μ μ' : Bk} {ρ : Rb}, Alike μ ρ → (∀ x ∈ l, x.2.2 ≠ []) → onesM acct μ l = some μ' → ∃ ρ', rones acct ρ l = some ρ' ∧ Alike μ' ρ' := by
  intro l
  induction l with
  | nil => intro μ μ' ρ h _ hr; cases hr; exact ⟨ρ, rfl, h⟩
  | cons x l ih =>
    intro μ μ' ρ h hx hr
    have e1 : onesM acct μ (x :: l) = (oneM acct μ x).bind fun μ' => onesM acct μ' l := rfl
    have e2 : rones acct ρ (x :: l) = (rone acct ρ x).bind fun ρ' => rones acct ρ' l := rfl
    rw [e1] at hr
    rw [e2]
    cases h1 : oneM acct μ x with
    | none => rw [h1] at hr; cases hr
    | some μ1 =>
      rw [h1, Option.bind_some] at hr
      obtain ⟨ρ1, h2, h3⟩ := one_rone h (hx x (by simp)) h1
      rw [h2, Option.bind_some]
      exact ih h3 (fun y hy => hx y (by simp [hy])) hr
theorem alike_none : Alike noneM noneR := ⟨fun _ => rfl, fun a c h => by cases h⟩
/-- A good book: weaker, for trust's own. -/
def Good (μ : Bk) : Prop := ∀ a c, μ a = some c → c.st ≠ 0 ∧ conKn c ≠ [] ∧ a.toNat < 8
theorem toR_good {μ : Bk} (h : Good μ) : Alike μ (fun a => toRC (μ a)) := ⟨fun _ => rfl, h⟩
theorem oneM_good {acct : UInt8} {x : One} {μ μ' : Bk} (h : Good μ) (hr : oneM acct μ x = some μ') : Good μ' := by
  unfold oneM at hr
  rcases kns_alike (acct := acct) (a := x.1) x.2.2 (toR_good h) with ⟨h1, h2⟩ | ⟨μ1, ρ1, h1, h2, h3, h4⟩
  · rw [h1] at hr; cases hr
  · rw [h1, Option.bind_some] at hr
    cases hcc : μ1 x.1 with
    | none => rw [hcc] at hr; cases hr
    | some c =>
      rw [hcc, Option.bind_some] at hr
      split at hr
      · rename_i hc
        cases hr
        intro a' c' hc'
        unfold Bk.put at hc'
        by_cases e : a' = x.1
        · rw [if_pos e] at hc'
          cases hc'
          have := h3.good _ _ hcc
          refine ⟨?_, this.2.1, by rw [e]; exact this.2.2⟩
          show x.2.1 ≠ 0
          intro q
          have := hc.1
          rw [q] at this
          exact absurd this (by decide)
        · rw [if_neg e] at hc'
          exact h3.good a' c' hc'
      · cases hr
theorem onesM_good {acct : UInt8} : ∀ (l : List One) {μ μ' : Bk}, Good μ → onesM acct μ l = some μ' → Good μ' := by
  intro l
  induction l with
  | nil => intro μ μ' h hr; cases hr; exact h
  | cons x l ih =>
    intro μ μ' h hr
    have e1 : onesM acct μ (x :: l) = (oneM acct μ x).bind fun μ' => onesM acct μ' l := rfl
    rw [e1] at hr
    cases h1 : oneM acct μ x with
    | none => rw [h1] at hr; cases hr
    | some μ1 => rw [h1, Option.bind_some] at hr; exact ih (oneM_good h h1) hr
theorem rkn_toRC (o : Option Con) : rkn (toRC o) = (o.map conKn).getD [] := by
  cases o with
  | none => rfl
  | some c => rfl
theorem onesR_eq {μ : Bk} {ρ : Rb} (h : Alike μ ρ) : onesRb ρ = onesOfM μ := by
  unfold onesRb onesOfM
  congr 1
  funext a
  rw [h.same, rkn_toRC]
  unfold stM knM
  cases hμ : μ (UInt8.ofNat a) with
  | none => simp
  | some c =>
    have := h.good _ c hμ
    simp only [Option.map_some, Option.getD_some, if_neg this.2.1, if_neg this.1]
    rfl
theorem refB_eq {μ : Bk} {ρ : Rb} (h : Alike μ ρ) (acct : UInt8) (own : List K) : refB acct own ρ = bookM acct (setF own) μ := by
  unfold refB bookM
  rw [onesR_eq h]
/-! Parts are read back. -/
theorem be2 (n : Nat) (h : n < 256) (ys : List UInt8) : be ((lenB n ++ ys).take 2) = n := by
  simp [lenB, be, Nat.mod_eq_of_lt h]
theorem manyGo_enc {α : Type} {item : List UInt8 → Option (α × List UInt8)} (enc : α → List UInt8) : ∀ (l : List α), (∀ x ∈ l, ∀ ys, item (enc x ++ ys) = some (x, ys)) → ∀ ys, manyGo item l.length (l.flatMap enc ++ ys) = some (l, ys) := by
  intro l
  induction l with
  | nil => intro _ ys; rfl
  | cons x l ih =>
    intro h ys
    rw [List.length_cons, manyGo, List.flatMap_cons, List.append_assoc, h x (by simp), Option.bind_some, ih (fun y hy => h y (by simp [hy]))]
    rfl
theorem listGo_enc {α : Type} {item : List UInt8 → Option (α × List UInt8)} (enc : α → List UInt8) (most : Nat) (l : List α) (h : ∀ x ∈ l, ∀ ys, item (enc x ++ ys) = some (x, ys)) (hl : l.length ≤ most) (hm : most < 256) (ys : List UInt8) :
    listGo most item (some (lenB l.length ++ l.flatMap enc ++ ys)) = some (l, ys) := by
  unfold listGo
  rw [Option.bind_some, List.append_assoc, be2 _ (by omega), if_pos ⟨by simp [lenB], hl⟩]
  exact manyGo_enc enc l h ys
theorem keyGo_enc (k : K) (ys : List UInt8) : keyGo (k.1 ++ ys) = some (k, ys) := by
  unfold keyGo
  rw [dif_pos (by rw [List.length_append, k.2]; omega)]
  have e1 : (k.1 ++ ys).take 32 = k.1 := by rw [List.take_append_of_le_length (by rw [k.2]; exact Nat.le_refl _), List.take_of_length_le (by rw [k.2]; exact Nat.le_refl _)]
  have e2 : (k.1 ++ ys).drop 32 = ys := by rw [List.drop_append_of_le_length (by rw [k.2]; exact Nat.le_refl _), List.drop_of_length_le (by rw [k.2]; exact Nat.le_refl _)]; rfl
  simp only [e1, e2]
theorem knGo_enc (x : Kn) (ys : List UInt8) : knGo (knB x ++ ys) = some (x, ys) := by
  unfold knGo knB
  rw [List.cons_append, u8Go, Option.bind_some, keyGo_enc]
  rfl
theorem oneGo_enc (x : One) (h : x.2.2.length ≤ 4) (ys : List UInt8) : oneGo (oneB x ++ ys) = some (x, ys) := by
  unfold oneGo oneB
  have e : [x.1, x.2.1] ++ lenB x.2.2.length ++ knsB x.2.2 ++ ys = x.1 :: x.2.1 :: (lenB x.2.2.length ++ x.2.2.flatMap knB ++ ys) := by simp [knsB]
  rw [e, u8Go, Option.bind_some, u8Go, Option.bind_some, listGo_enc knB 4 _ (fun y _ zs => knGo_enc y zs) h (by decide)]
  rfl
theorem onesOfM_len (μ : Bk) : (onesOfM μ).length ≤ 8 := by
  unfold onesOfM
  refine Nat.le_trans (List.length_filterMap_le _ _) ?_
  simp
theorem onesOfM_mem {μ : Bk} {x : One} (h : x ∈ onesOfM μ) : ∃ c, μ x.1 = some c ∧ x.2.2 = conKn c := by
  unfold onesOfM at h
  rw [List.mem_filterMap] at h
  obtain ⟨a, _, ha⟩ := h
  split at ha
  · cases ha
  · rename_i hs
    cases ha
    unfold stM at hs
    unfold knM
    cases hμ : μ (UInt8.ofNat a) with
    | none => rw [hμ] at hs; exact absurd rfl hs
    | some c => exact ⟨c, rfl, rfl⟩
theorem partsGo_enc (acct : UInt8) (own : List K) (μ : Bk) (h : own.length ≤ 4) : partsGo (bookM acct own μ) = some (acct, own, onesOfM μ) := by
  unfold partsGo bookM
  have e : [acct] ++ (lenB own.length ++ keysB own) ++ (lenB (onesOfM μ).length ++ onesB (onesOfM μ)) = acct :: (lenB own.length ++ own.flatMap (·.1) ++ (lenB (onesOfM μ).length ++ (onesOfM μ).flatMap oneB ++ [])) := by simp [keysB, onesB]
  rw [e, u8Go, Option.bind_some, listGo_enc _ 4 own (fun y _ zs => keyGo_enc y zs) h (by decide), Option.bind_some, listGo_enc oneB 8 _ (fun y hy zs => oneGo_enc y ?_ zs) (onesOfM_len μ) (by decide), Option.bind_some, if_pos rfl]
  obtain ⟨c, _, h2⟩ := onesOfM_mem hy
  rw [h2]
  exact conUpto_len c 4
theorem manyGo_length {α : Type} {item : List UInt8 → Option (α × List UInt8)} : ∀ (n : Nat) (xs : List UInt8) (l : List α) (ys : List UInt8), manyGo item n xs = some (l, ys) → l.length = n := by
  intro n
  induction n with
  | zero => intro xs l ys h; simp [manyGo] at h; simp [h.1]
  | succ n ih =>
    intro xs l ys h
    rw [manyGo] at h
    cases h1 : item xs with
    | none => rw [h1] at h; cases h
    | some r =>
      rw [h1, Option.bind_some] at h
      cases h2 : manyGo item n r.2 with
      | none => rw [h2] at h; cases h
      | some s =>
        rw [h2] at h
        simp only [Option.map_some, Option.some.injEq, Prod.mk.injEq] at h
        rw [← h.1, List.length_cons, ih _ _ _ h2]
theorem listGo_most {α : Type} {most : Nat} {item : List UInt8 → Option (α × List UInt8)} {st : Option (List UInt8)} {l : List α} {ys : List UInt8} (h : listGo most item st = some (l, ys)) : l.length ≤ most := by
  unfold listGo at h
  cases st with
  | none => cases h
  | some xs =>
    rw [Option.bind_some] at h
    split at h
    · rename_i hc
      rw [manyGo_length _ _ _ _ h]
      exact hc.2
    · cases h
theorem partsGo_own {xs : List UInt8} {a : UInt8} {own : List K} {l : List One} (h : partsGo xs = some (a, own, l)) : own.length ≤ 4 := by
  unfold partsGo at h
  cases h1 : u8Go xs with
  | none => rw [h1] at h; cases h
  | some r =>
    rw [h1, Option.bind_some] at h
    cases h2 : listGo 4 keyGo (some r.2) with
    | none => rw [h2] at h; cases h
    | some s =>
      rw [h2, Option.bind_some] at h
      cases h3 : listGo 8 oneGo (some s.2) with
      | none => rw [h3] at h; cases h
      | some t =>
        rw [h3, Option.bind_some] at h
        split at h
        · cases h
          exact listGo_most h2
        · cases h
/-- The two Loads accept the same bytes, and make of them books that stand alike. -/
theorem load_ref (xs : List UInt8) :
    (loadM xs = none ∧ refM xs = none) ∨ ∃ a own μ ρ, loadM xs = some (a, setF own, μ) ∧ refM xs = some (a, own, ρ) ∧ Alike μ ρ ∧ bookM a (setF own) μ = xs ∧ refB a own ρ = xs := by
  unfold loadM refM
  cases hp : partsGo xs with
  | none => exact .inl ⟨rfl, rfl⟩
  | some q =>
    obtain ⟨a, own, l⟩ := q
    simp only [Option.bind_some]
    by_cases hc : a.toNat < 8 ∧ 1 ≤ own.length
    · rw [if_pos hc, if_pos hc]
      cases hr : rones a noneR l with
      | some ρ =>
        obtain ⟨μ, h1, h2⟩ := rones_ones l alike_none hr
        rw [h1]
        simp only [Option.bind_some, refB_eq h2]
        by_cases hx : bookM a (setF own) μ = xs
        · rw [if_pos hx, if_pos hx]
          exact .inr ⟨a, own, μ, ρ, rfl, rfl, h2, hx, (refB_eq h2 a own).trans hx⟩
        · rw [if_neg hx, if_neg hx]
          exact .inl ⟨rfl, rfl⟩
      | none =>
        refine .inl ⟨?_, rfl⟩
        cases ho : onesM a noneM l with
        | none => rfl
        | some μ =>
          simp only [Option.bind_some]
          by_cases hx : bookM a (setF own) μ = xs
          · exfalso
            have hg : Good μ := onesM_good l (fun a c h => by cases h) ho
            have h4 : (setF own).length ≤ 4 := Nat.le_trans (setF_len own) (partsGo_own hp)
            have hq := partsGo_enc a (setF own) μ h4
            rw [hx, hp] at hq
            simp only [Option.some.injEq, Prod.mk.injEq] at hq
            obtain ⟨ρ, h1, _⟩ := ones_rones l alike_none (fun x hx' => by
              rw [hq.2.2] at hx'
              obtain ⟨c, h1, h2⟩ := onesOfM_mem hx'
              rw [h2]
              exact (hg _ _ h1).2.1) ho
            rw [hr] at h1
            cases h1
          · rw [if_neg hx]
    · rw [if_neg hc, if_neg hc]
      exact .inl ⟨rfl, rfl⟩
end Go.Proofs.YtdbceafejbnebaaGreatDoor
