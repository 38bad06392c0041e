/- The document's Load, step by step, in plain words. -/
import Derived.Test.YtdbceafejbnebaaGreatDoorM18
namespace Go.Proofs.YtdbceafejbnebaaGreatDoor
open Go Go.RowKit
/-- What next tells: noughts, if there are too few. -/
def rZ (n : Nat) (st : Option (List UInt8)) : List UInt8 := (st.map fun ys => if n ≤ ys.length then ys.take n else List.replicate n 0).getD (List.replicate n 0)
theorem rZ_len (n : Nat) (st : Option (List UInt8)) : (rZ n st).length = n := by
  cases st with
  | none => simp [rZ]
  | some ys =>
    simp only [rZ, Option.map_some, Option.getD_some]
    split
    · rw [List.length_take]; omega
    · simp
theorem rZ_has {n : Nat} {ys : List UInt8} (h : n ≤ ys.length) : rZ n (some ys) = ys.take n := by simp [rZ, h]
theorem rZ_few {n : Nat} {ys : List UInt8} (h : ¬ n ≤ ys.length) : rZ n (some ys) = List.replicate n 0 := by simp [rZ, h]
theorem rTake_few {n : Nat} {ys : List UInt8} (h : ¬ n ≤ ys.length) : rTake n (some ys) = none := by simp [rTake, h]
theorem rTake_none (n : Nat) : rTake n none = none := rfl
def zAt (n : Nat) (st : Option (List UInt8)) (i : Nat) : UInt8 := (rZ n st)[i]?.getD 0
def kOf (st : Option (List UInt8)) : K := ⟨rZ 32 st, rZ_len 32 st⟩
def numZ (st : Option (List UInt8)) : Nat := be (rZ 2 st)
theorem numZ_none : numZ none = 0 := rfl
theorem numZ_lt (st : Option (List UInt8)) : numZ st < 65536 := by
  have := be_lt (rZ 2 st)
  rw [rZ_len] at this
  exact this
theorem u8Go_code (ys : List UInt8) : u8Go ys = (rTake 1 (some ys)).map fun zs => (zAt 1 (some ys) 0, zs) := by
  cases ys with
  | nil => rfl
  | cons c ys => simp [u8Go, rTake, zAt, rZ]
theorem keyGo_code (ys : List UInt8) : keyGo ys = (rTake 32 (some ys)).map fun zs => (kOf (some ys), zs) := by
  unfold keyGo
  split
  · rename_i h
    rw [rTake_has h, Option.map_some]
    congr 2
    exact Subtype.ext (rZ_has h).symm
  · rename_i h
    rw [rTake_few h]
    rfl
theorem knGo_code (ys : List UInt8) : knGo ys = (rTake 32 (rTake 1 (some ys))).map fun zs => ((zAt 1 (some ys) 0, kOf (rTake 1 (some ys))), zs) := by
  unfold knGo
  rw [u8Go_code]
  cases h : rTake 1 (some ys) with
  | none => rfl
  | some zs =>
    simp only [Option.map_some, Option.bind_some]
    rw [keyGo_code]
    cases rTake 32 (some zs) <;> rfl
theorem listGo_code {α : Type} (most : Nat) (item : List UInt8 → Option (α × List UInt8)) (st : Option (List UInt8)) :
    listGo most item st = if numZ st ≤ most then (rTake 2 st).bind (manyGo item (numZ st)) else none := by
  cases st with
  | none =>
    unfold listGo
    simp [rTake]
  | some ys =>
    unfold listGo
    rw [Option.bind_some]
    by_cases h : 2 ≤ ys.length
    · have e : numZ (some ys) = be (ys.take 2) := by rw [numZ, rZ_has h]
      rw [rTake_has h, Option.bind_some, e]
      by_cases h2 : be (ys.take 2) ≤ most
      · rw [if_pos ⟨h, h2⟩, if_pos h2]
      · rw [if_neg (fun q => h2 q.2), if_neg h2]
    · rw [if_neg (fun q => h q.1), rTake_few h]
      simp
/-! Keys of one's own. -/
def keysS (k : Nat) (st : Option (List UInt8)) : Option (List K × List UInt8) := st.bind (manyGo keyGo k)
theorem keysS_zero (st : Option (List UInt8)) : keysS 0 st = st.map fun ys => ([], ys) := by cases st <;> rfl
theorem keysS_succ (k : Nat) (st : Option (List UInt8)) : keysS (k + 1) st = (keysS k (rTake 32 st)).map fun r => (kOf st :: r.1, r.2) := by
  cases st with
  | none => rfl
  | some ys =>
    unfold keysS
    rw [Option.bind_some, manyGo, keyGo_code]
    cases h : rTake 32 (some ys) with
    | none => rfl
    | some zs => simp
/-! Keys of an account. -/
def goKns (acct a : UInt8) : Nat → Rb → List UInt8 → Option (Rb × List UInt8)
  | 0, ρ, ys => some (ρ, ys)
  | k + 1, ρ, ys => (knGo ys).bind fun r => (rlearn acct ρ a r.1.1 r.1.2).bind fun ρ' => goKns acct a k ρ' r.2
def knsS (acct a : UInt8) (k : Nat) (ρ : Rb) (st : Option (List UInt8)) : Option (Rb × List UInt8) := st.bind (goKns acct a k ρ)
theorem knsS_zero (acct a : UInt8) (ρ : Rb) (st : Option (List UInt8)) : knsS acct a 0 ρ st = st.map fun ys => (ρ, ys) := by cases st <;> rfl
theorem knsS_succ (acct a : UInt8) (k : Nat) (ρ : Rb) (st : Option (List UInt8)) : knsS acct a (k + 1) ρ st =
    if mayE acct a (zAt 1 st 0) = 0 then knsS acct a k (ρ.put a (rlearnC (ρ a) (zAt 1 st 0).toNat (kOf (rTake 1 st)))) (rTake 32 (rTake 1 st)) else none := by
  cases st with
  | none => simp [knsS, rTake]
  | some ys =>
    have e : knsS acct a (k + 1) ρ (some ys) = (knGo ys).bind fun r => (rlearn acct ρ a r.1.1 r.1.2).bind fun ρ' => goKns acct a k ρ' r.2 := rfl
    rw [e, knGo_code]
    unfold rlearn
    cases h : rTake 32 (rTake 1 (some ys)) with
    | none => simp [knsS]
    | some zs =>
      simp only [Option.map_some, Option.bind_some]
      split <;> simp [knsS]
theorem goKns_eq (acct a : UInt8) : ∀ (k : Nat) (ρ : Rb) (ys : List UInt8), goKns acct a k ρ ys = (manyGo knGo k ys).bind fun r => (rkns acct ρ a r.1).map fun ρ' => (ρ', r.2) := by
  intro k
  induction k with
  | zero => intro ρ ys; rfl
  | succ k ih =>
    intro ρ ys
    rw [goKns, manyGo]
    cases h : knGo ys with
    | none => rfl
    | some r =>
      simp only [Option.bind_some]
      have e2 : ∀ l, rkns acct ρ a (r.1 :: l) = (rlearn acct ρ a r.1.1 r.1.2).bind fun ρ' => rkns acct ρ' a l := fun l => rfl
      cases h2 : rlearn acct ρ a r.1.1 r.1.2 with
      | none =>
        simp only [Option.bind_none]
        cases manyGo knGo k r.2 with
        | none => rfl
        | some s => simp [e2, h2]
      | some ρ' =>
        simp only [Option.bind_some]
        rw [ih]
        cases manyGo knGo k r.2 with
        | none => rfl
        | some s => simp [e2, h2]
/-! Accounts. -/
def goOne (acct : UInt8) (ρ : Rb) (ys : List UInt8) : Option (Rb × List UInt8) := (oneGo ys).bind fun r => (rone acct ρ r.1).map fun ρ' => (ρ', r.2)
def goOnes (acct : UInt8) : Nat → Rb → List UInt8 → Option (Rb × List UInt8)
  | 0, ρ, ys => some (ρ, ys)
  | m + 1, ρ, ys => (goOne acct ρ ys).bind fun q => goOnes acct m q.1 q.2
def onesS (acct : UInt8) (m : Nat) (ρ : Rb) (st : Option (List UInt8)) : Option (Rb × List UInt8) := st.bind (goOnes acct m ρ)
theorem onesS_zero (acct : UInt8) (ρ : Rb) (st : Option (List UInt8)) : onesS acct 0 ρ st = st.map fun ys => (ρ, ys) := by cases st <;> rfl
theorem goOnes_eq (acct : UInt8) : ∀ (m : Nat) (ρ : Rb) (ys : List UInt8), goOnes acct m ρ ys = (manyGo oneGo m ys).bind fun r => (rones acct ρ r.1).map fun ρ' => (ρ', r.2) := by
  intro m
  induction m with
  | zero => intro ρ ys; rfl
  | succ m ih =>
    intro ρ ys
    rw [goOnes, manyGo, goOne]
    cases h : oneGo ys with
    | none => rfl
    | some r =>
      simp only [Option.bind_some]
      have e2 : ∀ l, rones acct ρ (r.1 :: l) = (rone acct ρ r.1).bind fun ρ' => rones acct ρ' l := fun l => rfl
      cases h2 : rone acct ρ r.1 with
      | none =>
        simp only [Option.map_none, Option.bind_none]
        cases manyGo oneGo m r.2 with
        | none => rfl
        | some s => simp [e2, h2]
      | some ρ' =>
        simp only [Option.map_some, Option.bind_some]
        rw [ih]
        cases manyGo oneGo m r.2 with
        | none => rfl
        | some s => simp [e2, h2]
theorem goOne_code (acct : UInt8) (ρ : Rb) (ys : List UInt8) : goOne acct ρ ys =
    (if numZ (rTake 2 (some ys)) ≤ 4 then knsS acct (zAt 2 (some ys) 0) (numZ (rTake 2 (some ys))) ρ (rTake 2 (rTake 2 (some ys))) else none).bind fun q =>
      if (zAt 2 (some ys) 0).toNat < 8 ∧ (1 ≤ (zAt 2 (some ys) 1).toNat ∧ (zAt 2 (some ys) 1).toNat ≤ 3) ∧ 1 ≤ numZ (rTake 2 (some ys)) then some (q.1.put (zAt 2 (some ys) 0) ((q.1 (zAt 2 (some ys) 0)).setSt (zAt 2 (some ys) 1)), q.2) else none := by
  unfold goOne oneGo
  match ys with
  | [] => simp [u8Go, rTake, knsS]
  | [c] => simp [u8Go, rTake, knsS]
  | a :: s :: zs =>
    have e0 : rTake 2 (some (a :: s :: zs)) = some zs := by simp [rTake]
    have e1 : zAt 2 (some (a :: s :: zs)) 0 = a := by simp [zAt, rZ]
    have e2 : zAt 2 (some (a :: s :: zs)) 1 = s := by simp [zAt, rZ]
    rw [e0, e1, e2]
    simp only [u8Go, Option.bind_some]
    rw [listGo_code]
    by_cases h4 : numZ (some zs) ≤ 4
    · rw [if_pos h4, if_pos h4]
      cases h5 : rTake 2 (some zs) with
      | none => simp [knsS]
      | some vs =>
        simp only [Option.bind_some, knsS]
        rw [goKns_eq]
        cases h6 : manyGo knGo (numZ (some zs)) vs with
        | none => rfl
        | some r =>
          have hl := manyGo_length _ _ _ _ h6
          simp only [Option.map_some, Option.bind_some, rone]
          cases h7 : rkns acct ρ a r.1 with
          | none => rfl
          | some ρ' =>
            simp only [Option.bind_some, Option.map_some]
            have hiff : (r.1 ≠ []) ↔ 1 ≤ numZ (some zs) := by
              rw [← hl]
              cases r.1 <;> simp
            by_cases hc : a.toNat < 8 ∧ (1 ≤ s.toNat ∧ s.toNat ≤ 3) ∧ 1 ≤ numZ (some zs)
            · rw [if_pos hc, if_pos ⟨hc.1, hc.2.1, hiff.2 hc.2.2⟩]
              rfl
            · rw [if_neg hc, if_neg (fun q => hc ⟨q.1, q.2.1, hiff.1 q.2.2⟩)]
              rfl
    · rw [if_neg h4, if_neg h4]
      rfl
theorem onesS_succ (acct : UInt8) (m : Nat) (ρ : Rb) (st : Option (List UInt8)) : onesS acct (m + 1) ρ st =
    (if numZ (rTake 2 st) ≤ 4 then knsS acct (zAt 2 st 0) (numZ (rTake 2 st)) ρ (rTake 2 (rTake 2 st)) else none).bind fun q =>
      if (zAt 2 st 0).toNat < 8 ∧ (1 ≤ (zAt 2 st 1).toNat ∧ (zAt 2 st 1).toNat ≤ 3) ∧ 1 ≤ numZ (rTake 2 st) then onesS acct m (q.1.put (zAt 2 st 0) ((q.1 (zAt 2 st 0)).setSt (zAt 2 st 1))) (some q.2) else none := by
  cases st with
  | none => simp [onesS, rTake, knsS, numZ_none]
  | some ys =>
    have e : onesS acct (m + 1) ρ (some ys) = (goOne acct ρ ys).bind fun q => goOnes acct m q.1 q.2 := rfl
    rw [e, goOne_code]
    generalize (if numZ (rTake 2 (some ys)) ≤ 4 then knsS acct (zAt 2 (some ys) 0) (numZ (rTake 2 (some ys))) ρ (rTake 2 (rTake 2 (some ys))) else none) = X
    cases X with
    | none => rfl
    | some q =>
      simp only [Option.bind_some]
      split <;> rfl
/-- The end: all was read, and the bytes are these. -/
def finR (xs : List UInt8) (acct : UInt8) (own : List K) (q : Rb × List UInt8) : Option (UInt8 × List K × Rb) := if q.2 = [] ∧ refB acct own q.1 = xs then some (acct, own, q.1) else none
theorem refM_code (xs : List UInt8) : refM xs =
    (if numZ (rTake 1 (some xs)) ≤ 4 then keysS (numZ (rTake 1 (some xs))) (rTake 2 (rTake 1 (some xs))) else none).bind fun r =>
      if (zAt 1 (some xs) 0).toNat < 8 ∧ 1 ≤ numZ (rTake 1 (some xs)) ∧ numZ (some r.2) ≤ 8 then (onesS (zAt 1 (some xs) 0) (numZ (some r.2)) noneR (rTake 2 (some r.2))).bind (finR xs (zAt 1 (some xs) 0) r.1) else none := by
  unfold refM partsGo
  rw [u8Go_code]
  cases h1 : rTake 1 (some xs) with
  | none => simp [keysS, rTake]
  | some ys =>
    simp only [Option.map_some, Option.bind_some]
    rw [listGo_code]
    generalize zAt 1 (some xs) 0 = acct
    by_cases h4 : numZ (some ys) ≤ 4
    · rw [if_pos h4, if_pos h4]
      have e : (rTake 2 (some ys)).bind (manyGo keyGo (numZ (some ys))) = keysS (numZ (some ys)) (rTake 2 (some ys)) := rfl
      rw [e]
      cases h2 : keysS (numZ (some ys)) (rTake 2 (some ys)) with
      | none => rfl
      | some r =>
        have hl : r.1.length = numZ (some ys) := by
          cases h3 : rTake 2 (some ys) with
          | none => rw [h3] at h2; cases h2
          | some vs => rw [h3] at h2; exact manyGo_length _ _ _ _ h2
        simp only [Option.bind_some]
        rw [listGo_code]
        by_cases h8 : numZ (some r.2) ≤ 8
        · rw [if_pos h8]
          cases h3 : rTake 2 (some r.2) with
          | none => simp [onesS]
          | some vs =>
            simp only [Option.bind_some, onesS]
            rw [goOnes_eq]
            cases h5 : manyGo oneGo (numZ (some r.2)) vs with
            | none => simp
            | some t =>
              simp only [Option.bind_some]
              by_cases ht : t.2 = []
              · rw [if_pos ht, Option.bind_some]
                simp only [hl, h8, and_true]
                split
                · cases rones acct noneR t.1 with
                  | none => rfl
                  | some ρ => simp [finR, ht]
                · rfl
              · rw [if_neg ht]
                simp only [Option.bind_none]
                split
                · cases rones acct noneR t.1 with
                  | none => rfl
                  | some ρ => simp [finR, ht]
                · rfl
        · rw [if_neg h8]
          simp [h8]
    · rw [if_neg h4, if_neg h4]
      rfl
/-- Behind the keys of one's own. -/
theorem refM_mid {xs : List UInt8} {L : List K} {st : Option (List UInt8)} {i : Nat}
    (hrel : numZ (rTake 1 (some xs)) ≤ 4 → keysS (numZ (rTake 1 (some xs))) (rTake 2 (rTake 1 (some xs))) = (keysS (numZ (rTake 1 (some xs)) - i) st).map fun r => (L ++ r.1, r.2))
    (hex : numZ (rTake 1 (some xs)) ≤ i ∨ st = none ∨ ¬ numZ (rTake 1 (some xs)) ≤ 4) :
    refM xs = if (zAt 1 (some xs) 0).toNat < 8 ∧ 1 ≤ numZ (rTake 1 (some xs)) ∧ numZ (rTake 1 (some xs)) ≤ 4 ∧ numZ st ≤ 8 then (onesS (zAt 1 (some xs) 0) (numZ st) noneR (rTake 2 st)).bind (finR xs (zAt 1 (some xs) 0) L) else none := by
  rw [refM_code]
  generalize zAt 1 (some xs) 0 = acct
  by_cases h4 : numZ (rTake 1 (some xs)) ≤ 4
  · rw [if_pos h4, hrel h4]
    cases st with
    | none => simp [keysS, onesS, rTake]
    | some ys =>
      have hn : numZ (rTake 1 (some xs)) ≤ i := by
        rcases hex with h | h | h
        · exact h
        · cases h
        · exact absurd h4 h
      rw [show numZ (rTake 1 (some xs)) - i = 0 by omega, keysS_zero]
      simp only [Option.map_some, Option.bind_some, List.append_nil, h4, true_and]
  · rw [if_neg h4]
    simp [h4]
end Go.Proofs.YtdbceafejbnebaaGreatDoor
