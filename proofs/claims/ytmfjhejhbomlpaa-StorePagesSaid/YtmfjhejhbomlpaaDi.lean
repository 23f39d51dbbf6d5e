/- Plain law: the frames of texts as sectors. -/
import Derived.Test.YtmfjhejhbomlpaaDb
import Derived.Test.YtmfjhejhbomlpaaVe
set_option linter.unusedVariables false
set_option linter.unusedSimpArgs false
namespace Go.Proofs.Ytmfjhejhbomlpaa
open Go.RowKit

/-- Bytes as sectors, the last one with noughts behind. -/
def fsecs (f : List UInt8) : List (List UInt8) := if f.length ≤ 64 then [padS f] else f.take 64 :: fsecs (f.drop 64)
termination_by f.length
decreasing_by simp; omega
theorem fsecs_le {f : List UInt8} (h : f.length ≤ 64) : fsecs f = [padS f] := by rw [fsecs, if_pos h]
theorem fsecs_gt {f : List UInt8} (h : ¬ f.length ≤ 64) : fsecs f = f.take 64 :: fsecs (f.drop 64) := by rw [fsecs, if_neg h]
theorem fsecs_64 (f : List UInt8) : ∀ s ∈ fsecs f, s.length = 64 := by
  fun_induction fsecs f with
  | case1 f h => intro s hs; simp only [List.mem_singleton] at hs; subst hs; exact padS_length f h
  | case2 f h ih =>
    intro s hs
    rcases List.mem_cons.1 hs with rfl | hs
    · rw [List.length_take]; omega
    · exact ih s hs
theorem fsecs_length (f : List UInt8) (h : 1 ≤ f.length) : (fsecs f).length = spanN f.length := by
  fun_induction fsecs f with
  | case1 f h1 => unfold spanN; simp; omega
  | case2 f h1 ih =>
    have h2 : 1 ≤ (f.drop 64).length := by rw [List.length_drop]; omega
    rw [List.length_cons, ih h2, List.length_drop]
    unfold spanN
    omega
theorem fsecs_flat (f : List UInt8) : ∃ r, flat (fsecs f) = f ++ r := by
  fun_induction fsecs f with
  | case1 f h1 => exact ⟨List.replicate (64 - f.length) 0, by simp [flat, padS]⟩
  | case2 f h1 ih =>
    obtain ⟨r, hr⟩ := ih
    refine ⟨r, ?_⟩
    rw [show flat (f.take 64 :: fsecs (f.drop 64)) = f.take 64 ++ flat (fsecs (f.drop 64)) by simp [flat], hr, ← List.append_assoc, List.take_append_drop]
theorem fsecs_get (f : List UInt8) (k : Nat) (hk : k < (fsecs f).length) : (fsecs f)[k] = padS ((f.drop (64 * k)).take 64) := by
  induction k generalizing f with
  | zero =>
    by_cases h : f.length ≤ 64
    · simp only [fsecs_le h, Nat.mul_zero, List.drop_zero, List.getElem_cons_zero, List.take_of_length_le h]
    · simp only [fsecs_gt h, Nat.mul_zero, List.drop_zero, List.getElem_cons_zero]
      have : (f.take 64).length = 64 := by rw [List.length_take]; omega
      simp [padS, this]
  | succ k ih =>
    by_cases h : f.length ≤ 64
    · simp [fsecs_le h] at hk
    · simp only [fsecs_gt h] at hk ⊢
      rw [List.getElem_cons_succ, ih (f.drop 64) (by simpa using hk), List.drop_drop, show 64 + 64 * k = 64 * (k + 1) by omega]

/-- The sectors of texts, the first of them with number s. -/
def img : Nat → List (List UInt8) → List (List UInt8)
  | _, [] => []
  | s, t :: r => fsecs (frameB s t) ++ img (s + 1) r
def nxt (T : List (List UInt8)) : Nat := (T.map fun t => spanN (t.length + 20)).sum
theorem img_append (s : Nat) (a b : List (List UInt8)) : img s (a ++ b) = img s a ++ img (s + a.length) b := by
  induction a generalizing s with
  | nil => rfl
  | cons t a ih =>
    simp only [List.cons_append, img, ih, List.append_assoc, List.length_cons]
    rw [show s + 1 + a.length = s + (a.length + 1) by omega]
theorem img_64 (s : Nat) (T : List (List UInt8)) : ∀ x ∈ img s T, x.length = 64 := by
  induction T generalizing s with
  | nil => intro x hx; cases hx
  | cons t T ih =>
    intro x hx
    rcases List.mem_append.1 hx with h | h
    · exact fsecs_64 _ x h
    · exact ih _ x h
theorem img_length (s : Nat) (T : List (List UInt8)) : (img s T).length = nxt T := by
  induction T generalizing s with
  | nil => rfl
  | cons t T ih =>
    have := frameB_length s t
    simp only [img, List.length_append, ih, nxt, List.map_cons, List.sum_cons]
    rw [fsecs_length _ (by omega), this]
theorem nxt_snoc (T : List (List UInt8)) (t : List UInt8) : nxt (T ++ [t]) = nxt T + spanN (t.length + 20) := by simp [nxt]
theorem nxt_length (T : List (List UInt8)) : T.length ≤ nxt T := by
  induction T with
  | nil => exact Nat.le_refl _
  | cons t T ih =>
    have : 1 ≤ spanN (t.length + 20) := by unfold spanN; omega
    have e : nxt (t :: T) = spanN (t.length + 20) + nxt T := by simp [nxt]
    rw [e, List.length_cons]
    omega
theorem nxt_take_le (T : List (List UInt8)) (m : Nat) : nxt (T.take m) ≤ nxt T := by
  have h := congrArg nxt (List.take_append_drop m T)
  have e : nxt (T.take m ++ T.drop m) = nxt (T.take m) + nxt (T.drop m) := by simp only [nxt, List.map_append, List.sum_append]
  omega
theorem img_drop (s : Nat) (T tail : List (List UInt8)) (m : Nat) : (img s T ++ tail).drop (nxt (T.take m)) = img (s + min m T.length) (T.drop m) ++ tail := by
  have h : img s T = img s (T.take m) ++ img (s + (T.take m).length) (T.drop m) := by rw [← img_append, List.take_append_drop]
  rw [h, List.append_assoc, ← img_length s (T.take m), List.drop_left, List.length_take]
theorem flat_append (a b : List (List UInt8)) : flat (a ++ b) = flat a ++ flat b := by simp [flat]
theorem flat_drop (l : List (List UInt8)) (h : ∀ s ∈ l, s.length = 64) (k : Nat) (hk : k ≤ l.length) : (flat l).drop (64 * k) = flat (l.drop k) := by
  induction l generalizing k with
  | nil => simp [flat]
  | cons s l ih =>
    cases k with
    | zero => rfl
    | succ k =>
      have e1 : flat (s :: l) = s ++ flat l := by simp [flat]
      have hs := h s (by simp)
      rw [e1, show 64 * (k + 1) = s.length + 64 * k by omega, List.drop_length_add_append, List.drop_succ_cons]
      exact ih (fun x hx => h x (by simp [hx])) k (by simpa using hk)
/-- What frame.Read meets at the m-th frame. -/
theorem flat_at (T tail : List (List UInt8)) (h64 : ∀ s ∈ tail, s.length = 64) (m : Nat) (hm : m < T.length) :
    ∃ rest, (flat (img 1 T ++ tail)).drop (64 * nxt (T.take m)) = frameB (m + 1) T[m] ++ rest := by
  have hall : ∀ s ∈ img 1 T ++ tail, s.length = 64 := fun s hs => by
    rcases List.mem_append.1 hs with h | h
    · exact img_64 _ _ _ h
    · exact h64 _ h
  rw [flat_drop _ hall _ (by rw [List.length_append, img_length]; have := nxt_take_le T m; omega), img_drop, Nat.min_eq_left (by omega), List.drop_eq_getElem_cons hm, img, flat_append, flat_append]
  obtain ⟨r, hr⟩ := fsecs_flat (frameB (1 + m) T[m])
  rw [hr, Nat.add_comm 1 m]
  exact ⟨r ++ (flat (img (m + 1 + 1) (T.drop (m + 1))) ++ flat tail), by simp only [List.append_assoc]⟩
theorem zeroB_take (s : List UInt8) (k : Nat) (h : zeroB s = true) : zeroB (s.take k) = true := by
  unfold zeroB at *
  rw [List.all_eq_true] at *
  exact fun x hx => h x (List.mem_of_mem_take hx)
theorem getB_zero : ∀ (l : List UInt8), zeroB l = true → ∀ x, l.foldl (fun x c => x * 256 + c.toNat) x = x * 256 ^ l.length := by
  intro l
  induction l with
  | nil => intro _ x; simp
  | cons c l ih =>
    intro h x
    unfold zeroB at h ih
    rw [List.all_cons, Bool.and_eq_true] at h
    have hc : c = 0 := by simpa using h.1
    rw [List.foldl_cons, ih h.2, hc, List.length_cons, Nat.pow_succ]
    simp [Nat.mul_assoc, Nat.mul_comm, Nat.mul_left_comm]
theorem frame_first (seq : Nat) (b : List UInt8) (hs : 1 ≤ seq) (hs2 : seq < 2 ^ 64) (h0 : 0 < (fsecs (frameB seq b)).length) : zeroB ((fsecs (frameB seq b))[0]) = false := by
  rw [fsecs_get]
  rw [Nat.mul_zero, List.drop_zero]
  cases hz : zeroB (padS ((frameB seq b).take 64))
  · rfl
  · exfalso
    have h1 := zeroB_take _ 12 hz
    have hl := frameB_length seq b
    have e : (padS ((frameB seq b).take 64)).take 12 = headB seq b := by
      unfold padS
      rw [List.take_append_of_le_length (by rw [List.length_take]; omega), List.take_take, show min 12 64 = 12 from rfl]
      have := frame_take12 seq b []
      simpa using this
    rw [e] at h1
    have h2 : zeroB (putB 8 seq) = true := by
      unfold zeroB headB at *
      rw [List.all_append, Bool.and_eq_true] at h1
      exact h1.2
    have h3 := getB_zero _ h2 0
    have h4 := getB_8 seq hs2
    unfold getB at h4
    rw [h3] at h4
    omega
theorem img_first (T tail : List (List UInt8)) (m : Nat) (hm : m < T.length) (h63 : T.length < 2 ^ 63) : nxt (T.take m) < (img 1 T ++ tail).length ∧ zeroB ((img 1 T ++ tail).getD (nxt (T.take m)) []) = false := by
  have hd := img_drop 1 T tail m
  rw [Nat.min_eq_left (by omega), List.drop_eq_getElem_cons hm, img] at hd
  have hl := frameB_length (1 + m) T[m]
  have hf : 0 < (fsecs (frameB (1 + m) T[m])).length := by
    rw [fsecs_length _ (by omega)]
    unfold spanN
    omega
  have hfl := congrArg List.length hd
  rw [List.length_drop] at hfl
  simp only [List.length_append] at hfl
  have hlt : nxt (T.take m) < (img 1 T ++ tail).length := by rw [List.length_append]; omega
  refine ⟨hlt, ?_⟩
  have hg : (img 1 T ++ tail).getD (nxt (T.take m)) [] = (fsecs (frameB (1 + m) T[m]))[0] := by
    have h0 : ((img 1 T ++ tail).drop (nxt (T.take m)))[0]? = some ((fsecs (frameB (1 + m) T[m]))[0]) := by
      rw [hd, List.append_assoc, List.getElem?_append_left hf, List.getElem?_eq_getElem hf]
    rw [List.getElem?_drop, Nat.add_zero] at h0
    rw [List.getD_eq_getElem?_getD, h0]
    rfl
  rw [hg]
  exact frame_first _ _ (by omega) (by omega) hf
end Go.Proofs.Ytmfjhejhbomlpaa
