/- Pairs by rising keys, changes done to them: plain Lean. -/
import Derived.Test.YtmfjhejhbomlpaaSb
set_option linter.unusedVariables false
set_option linter.unusedSimpArgs false
namespace Go.Proofs.Ytmfjhejhbomlpaa

/-! ### the order of texts -/
theorem less_irrefl : ∀ a : List UInt8, Op.bytesLess a a = false
  | [] => rfl
  | a :: x => by simp [Op.bytesLess, less_irrefl x]
theorem less_trans : ∀ a b c : List UInt8, Op.bytesLess a b = true → Op.bytesLess b c = true → Op.bytesLess a c = true
  | a, b, [], _, h => by cases b <;> simp [Op.bytesLess] at h
  | [], b, _ :: _, _, _ => by simp [Op.bytesLess]
  | _ :: _, [], _ :: _, h, _ => by simp [Op.bytesLess] at h
  | a :: x, b :: y, c :: z, h1, h2 => by
    simp only [Op.bytesLess, Bool.or_eq_true, decide_eq_true_eq, Bool.and_eq_true, beq_iff_eq] at *
    rcases h1 with h1 | ⟨rfl, h1⟩
    · rcases h2 with h2 | ⟨rfl, h2⟩
      · exact .inl (UInt8.lt_trans h1 h2)
      · exact .inl h1
    · rcases h2 with h2 | ⟨rfl, h2⟩
      · exact .inl h2
      · exact .inr ⟨rfl, less_trans x y z h1 h2⟩
theorem less_total : ∀ a b : List UInt8, Op.bytesLess a b = false → Op.bytesLess b a = false → a = b
  | [], [], _, _ => rfl
  | [], _ :: _, h, _ => by simp [Op.bytesLess] at h
  | _ :: _, [], _, h => by simp [Op.bytesLess] at h
  | a :: x, b :: y, h1, h2 => by
    simp only [Op.bytesLess, Bool.or_eq_false_iff, decide_eq_false_iff_not, Bool.and_eq_false_iff, beq_eq_false_iff_ne] at *
    have e : a = b := UInt8.le_antisymm (UInt8.not_lt.1 h2.1) (UInt8.not_lt.1 h1.1)
    subst e
    rw [less_total x y (by simpa using h1.2) (by simpa using h2.2)]
theorem less_asymm {a b : List UInt8} (h : Op.bytesLess a b = true) : Op.bytesLess b a = false := by
  cases hb : Op.bytesLess b a
  · rfl
  · have := less_trans _ _ _ h hb
    rw [less_irrefl] at this
    cases this
theorem ba_ext {a b : ByteArray} (h : a.toList = b.toList) : a = b := by
  rw [ByteArray.toList_eq, ByteArray.toList_eq] at h
  exact ByteArray.ext (Array.ext' h)
theorem ba_eq {a b : ByteArray} : (a.toList == b.toList) = true ↔ a = b := ⟨fun h => ba_ext (by simpa using h), fun h => by simp [h]⟩
theorem ba_ne {a b : ByteArray} : (a.toList == b.toList) = false ↔ a ≠ b := by
  rw [← Bool.not_eq_true, ba_eq]
def ltK (a b : ByteArray) : Bool := Op.bytesLess a.toList b.toList
theorem ltK_irrefl (a : ByteArray) : ltK a a = false := less_irrefl _
theorem ltK_trans {a b c : ByteArray} (h : ltK a b = true) (k : ltK b c = true) : ltK a c = true := less_trans _ _ _ h k
theorem ltK_asymm {a b : ByteArray} (h : ltK a b = true) : ltK b a = false := less_asymm h
theorem ltK_ne {a b : ByteArray} (h : ltK a b = true) : a ≠ b := by rintro rfl; rw [ltK_irrefl] at h; cases h
theorem ltK_total {a b : ByteArray} (h : ltK a b = false) (k : ltK b a = false) : a = b := ba_ext (less_total _ _ h k)

/-! ### pairs -/
abbrev Pr := ByteArray × List UInt8
def SortedL (l : List Pr) : Prop := l.Pairwise fun p q => ltK p.1 q.1 = true
def getL : List Pr → ByteArray → Option (List UInt8)
  | [], _ => none
  | p :: r, k => if p.1 = k then some p.2 else getL r k
def newL (c : Chg) : List Pr := if c.del then [] else [(c.key, c.val)]
def ins (c : Chg) : List Pr → List Pr
  | [] => newL c
  | p :: r => if ltK p.1 c.key then p :: ins c r else if p.1 = c.key then newL c ++ r else newL c ++ p :: r
def bytesL : List Pr → Nat
  | [] => 0
  | p :: r => p.1.size + p.2.length + bytesL r
def costL (l : List Pr) (k : ByteArray) : Nat := match getL l k with | some v => k.size + v.length | none => 0
def doneL (l : List Pr) (cs : List Chg) : List Pr := cs.foldl (fun l c => ins c l) l

theorem bytesL_append (a b : List Pr) : bytesL (a ++ b) = bytesL a + bytesL b := by
  induction a with
  | nil => simp [bytesL]
  | cons p r ih => simp only [List.cons_append, bytesL, ih]; omega
theorem newL_bytes (c : Chg) : bytesL (newL c) = if c.del then 0 else c.key.size + c.val.length := by
  unfold newL
  split <;> simp [bytesL]
theorem getL_ahead {l : List Pr} {k : ByteArray} (h : ∀ p ∈ l, ltK k p.1 = true) : getL l k = none := by
  induction l with
  | nil => rfl
  | cons p r ih =>
    rw [getL, if_neg (ltK_ne (h p (by simp))).symm]
    exact ih fun q hq => h q (by simp [hq])
theorem getL_new (c : Chg) (l : List Pr) (k : ByteArray) : getL (newL c ++ l) k = if k = c.key ∧ c.del = false then some c.val else getL l k := by
  unfold newL
  split
  · rename_i h
    rw [if_neg (by simp [h])]
    rfl
  · rename_i h
    have hd : c.del = false := by simpa using h
    rw [List.singleton_append, getL]
    by_cases hk : c.key = k
    · rw [if_pos hk, if_pos ⟨hk.symm, hd⟩]
    · rw [if_neg hk, if_neg (fun h => hk h.1.symm)]
theorem sorted_cons {p : Pr} {r : List Pr} : SortedL (p :: r) ↔ (∀ q ∈ r, ltK p.1 q.1 = true) ∧ SortedL r := List.pairwise_cons
theorem getL_ins (c : Chg) : ∀ (l : List Pr), SortedL l → ∀ k, getL (ins c l) k = if k = c.key then (if c.del then none else some c.val) else getL l k
  | [], _, k => by
    have := getL_new c [] k
    rw [List.append_nil] at this
    rw [ins, this]
    by_cases hk : k = c.key
    · rw [if_pos hk]
      cases hd : c.del
      · rw [if_pos ⟨hk, rfl⟩]; rfl
      · rw [if_neg (by simp)]; rfl
    · rw [if_neg hk, if_neg (fun h => hk h.1)]
  | p :: r, hs, k => by
    obtain ⟨h1, h2⟩ := sorted_cons.1 hs
    rw [ins]
    split
    · rename_i hlt
      rw [getL, getL, getL_ins c r h2 k]
      by_cases hpk : p.1 = k
      · rw [if_pos hpk, if_pos hpk, if_neg (by rw [← hpk]; exact ltK_ne hlt)]
      · rw [if_neg hpk, if_neg hpk]
    · split
      · rename_i hlt he
        rw [getL_new, getL]
        by_cases hk : k = c.key
        · rw [if_pos hk]
          cases hd : c.del
          · rw [if_pos ⟨hk, rfl⟩]; rfl
          · rw [if_neg (by simp)]
            exact getL_ahead fun q hq => by rw [hk, ← he]; exact h1 q hq
        · rw [if_neg (fun h => hk h.1), if_neg hk, if_neg (by rw [he]; exact fun h => hk h.symm)]
      · rename_i hlt he
        rw [getL_new]
        have hcp : ltK c.key p.1 = true := by
          cases h : ltK c.key p.1
          · exact absurd (ltK_total (by simpa using hlt) h) he
          · rfl
        by_cases hk : k = c.key
        · rw [if_pos hk]
          cases hd : c.del
          · rw [if_pos ⟨hk, rfl⟩]; rfl
          · rw [if_neg (by simp)]
            refine getL_ahead fun q hq => ?_
            rw [hk]
            rcases List.mem_cons.1 hq with rfl | hq
            · exact hcp
            · exact ltK_trans hcp (h1 q hq)
        · rw [if_neg (fun h => hk h.1), if_neg hk]
theorem mem_new {c : Chg} {q : Pr} (h : q ∈ newL c) : q.1 = c.key := by
  unfold newL at h
  split at h
  · cases h
  · simp at h
    rw [h]
theorem mem_ins {c : Chg} : ∀ {l : List Pr} {q : Pr}, q ∈ ins c l → q ∈ l ∨ q ∈ newL c
  | [], q, h => .inr h
  | p :: r, q, h => by
    rw [ins] at h
    split at h
    · rcases List.mem_cons.1 h with rfl | h
      · exact .inl (by simp)
      · rcases mem_ins h with h | h
        · exact .inl (by simp [h])
        · exact .inr h
    · split at h
      · rcases List.mem_append.1 h with h | h
        · exact .inr h
        · exact .inl (by simp [h])
      · rcases List.mem_append.1 h with h | h
        · exact .inr h
        · exact .inl h
theorem sorted_new {c : Chg} {l : List Pr} (h : SortedL l) (hl : ∀ q ∈ l, ltK c.key q.1 = true) : SortedL (newL c ++ l) := by
  unfold newL
  split
  · exact h
  · exact sorted_cons.2 ⟨hl, h⟩
theorem sorted_ins (c : Chg) : ∀ (l : List Pr), SortedL l → SortedL (ins c l)
  | [], h => by have := sorted_new (c := c) h (by simp); simpa [ins] using this
  | p :: r, hs => by
    obtain ⟨h1, h2⟩ := sorted_cons.1 hs
    rw [ins]
    split
    · rename_i hlt
      refine sorted_cons.2 ⟨fun q hq => ?_, sorted_ins c r h2⟩
      rcases mem_ins hq with h | h
      · exact h1 q h
      · rw [mem_new h]; exact hlt
    · split
      · rename_i hlt he
        exact sorted_new h2 fun q hq => by rw [← he]; exact h1 q hq
      · rename_i hlt he
        have hcp : ltK c.key p.1 = true := by
          cases h : ltK c.key p.1
          · exact absurd (ltK_total (by simpa using hlt) h) he
          · rfl
        refine sorted_new hs fun q hq => ?_
        rcases List.mem_cons.1 hq with rfl | hq
        · exact hcp
        · exact ltK_trans hcp (h1 q hq)
theorem costL_none {l : List Pr} {k : ByteArray} (h : getL l k = none) : costL l k = 0 := by unfold costL; rw [h]
theorem costL_some {l : List Pr} {k : ByteArray} {v : List UInt8} (h : getL l k = some v) : costL l k = k.size + v.length := by unfold costL; rw [h]
theorem bytes_ins (c : Chg) : ∀ (l : List Pr), SortedL l → bytesL (ins c l) + costL l c.key = bytesL l + bytesL (newL c)
  | [], _ => by simp [ins, bytesL, costL, getL]
  | p :: r, hs => by
    obtain ⟨h1, h2⟩ := sorted_cons.1 hs
    rw [ins]
    split
    · rename_i hlt
      have ih := bytes_ins c r h2
      have : costL (p :: r) c.key = costL r c.key := by unfold costL; rw [getL, if_neg (ltK_ne hlt)]
      rw [this]
      simp only [bytesL]
      omega
    · split
      · rename_i hlt he
        have : costL (p :: r) c.key = p.1.size + p.2.length := by rw [costL_some (v := p.2) (by rw [getL, if_pos he]), ← he]
        rw [this, bytesL_append]
        simp only [bytesL]
        omega
      · rename_i hlt he
        have hcp : ltK c.key p.1 = true := by
          cases h : ltK c.key p.1
          · exact absurd (ltK_total (by simpa using hlt) h) he
          · rfl
        rw [costL_none (getL_ahead fun q hq => by
          rcases List.mem_cons.1 hq with rfl | hq
          · exact hcp
          · exact ltK_trans hcp (h1 q hq)), bytesL_append]
        omega
theorem costL_le : ∀ (l : List Pr) (k : ByteArray), costL l k ≤ bytesL l
  | [], k => by simp [costL, getL]
  | p :: r, k => by
    have ih := costL_le r k
    by_cases hk : p.1 = k
    · rw [costL_some (v := p.2) (by rw [getL, if_pos hk]), ← hk]
      simp only [bytesL]
      omega
    · have : costL (p :: r) k = costL r k := by unfold costL; rw [getL, if_neg hk]
      rw [this]
      simp only [bytesL]
      omega
theorem sorted_done : ∀ (cs : List Chg) (l : List Pr), SortedL l → SortedL (doneL l cs)
  | [], _, h => h
  | c :: cs, l, h => sorted_done cs _ (sorted_ins c l h)
theorem getL_mem : ∀ {l : List Pr} {k : ByteArray} {v : List UInt8}, getL l k = some v → (k, v) ∈ l
  | [], _, _, h => by cases h
  | p :: r, k, v, h => by
    rw [getL] at h
    split at h
    · rename_i he
      injection h with h
      subst he h
      simp
    · exact List.mem_cons_of_mem _ (getL_mem h)
theorem getL_of_mem : ∀ {l : List Pr} {p : Pr}, SortedL l → p ∈ l → getL l p.1 = some p.2
  | q :: r, p, hs, h => by
    obtain ⟨h1, h2⟩ := sorted_cons.1 hs
    rw [getL]
    rcases List.mem_cons.1 h with rfl | h
    · rw [if_pos rfl]
    · rw [if_neg (ltK_ne (h1 p h)), getL_of_mem h2 h]
/-- Two lists by rising keys that say the same are one. -/
theorem sorted_ext : ∀ {l m : List Pr}, SortedL l → SortedL m → (∀ k, getL l k = getL m k) → l = m
  | [], [], _, _, _ => rfl
  | [], q :: m, _, hm, h => by have := h q.1; rw [getL, getL, if_pos rfl] at this; cases this
  | p :: l, [], _, _, h => by have := h p.1; rw [getL, getL, if_pos rfl] at this; cases this
  | p :: l, q :: m, hl, hm, h => by
    obtain ⟨h1, h2⟩ := sorted_cons.1 hl
    obtain ⟨k1, k2⟩ := sorted_cons.1 hm
    have hpq : p.1 = q.1 := by
      cases hc : ltK p.1 q.1
      · cases hd : ltK q.1 p.1
        · exact ltK_total hc hd
        · have := h q.1
          rw [getL_ahead (l := p :: l) (fun x hx => by
            rcases List.mem_cons.1 hx with rfl | hx
            · exact hd
            · exact ltK_trans hd (h1 x hx)), getL, if_pos rfl] at this
          cases this
      · have := h p.1
        rw [getL_ahead (l := q :: m) (fun x hx => by
          rcases List.mem_cons.1 hx with rfl | hx
          · exact hc
          · exact ltK_trans hc (k1 x hx)), getL, if_pos rfl] at this
        cases this
    have hv : p.2 = q.2 := by
      have := h p.1
      rw [getL, getL, if_pos rfl, if_pos hpq.symm] at this
      injection this
    have ht : ∀ k, getL l k = getL m k := by
      intro k
      by_cases hk : p.1 = k
      · rw [getL_ahead (fun x hx => by rw [← hk]; exact h1 x hx), getL_ahead (fun x hx => by rw [← hk, hpq]; exact k1 x hx)]
      · have := h k
        rwa [getL, getL, if_neg hk, if_neg (by rw [← hpq]; exact hk)] at this
    rw [sorted_ext h2 k2 ht, Prod.ext hpq hv]
end Go.Proofs.Ytmfjhejhbomlpaa
