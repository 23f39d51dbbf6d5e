/- Changes as bytes; the walk that encodes them. -/
import Derived.Test.YtmfjhejhbomlpaaSa
import Derived.Test.YtmfjhejhbomlpaaReg
import Derived.Lib.AppendStr
import Derived.Deep.DeepCutAuto
set_option linter.unusedVariables false
set_option linter.unusedSimpArgs false
namespace Go.Proofs.Ytmfjhejhbomlpaa
open Go.RowKit

section
variable {P : Program} {ops : Array Oper} {Q : Exit → Act → World → Prop} {S : World → Prop} {late : List Nat}
/-- One of two operations comes up. -/
theorem wpAnyE_two {i j : Nat} {oi oj : Oper} {fuel : Nat} {listed : Array Bool} {a : Act} {w : World} (hi : ops[i]? = some oi) (hj : ops[j]? = some oj) (hr : Region.ready .any ops listed = [i, j])
    (h1 : ∀ K : Act → World → Prop, (∀ a' w', S w' → (S w' → wpAnyE P ops Q S late fuel (listed.setIfInBounds i true) a' w') → K a' w') →
      if Region.wanted oi (yielded ops a.tmps) = true then oi.wp P a w K Q else K (a.put oi.dst undef) w)
    (h2 : ∀ K : Act → World → Prop, (∀ a' w', S w' → (S w' → wpAnyE P ops Q S late fuel (listed.setIfInBounds j true) a' w') → K a' w') →
      if Region.wanted oj (yielded ops a.tmps) = true then oj.wp P a w K Q else K (a.put oj.dst undef) w) : wpAnyE P ops Q S late (fuel + 1) listed a w := by
  refine ⟨fun h0 => (by rw [hr] at h0; cases h0), fun m hm => ?_⟩
  rw [hr] at hm
  have hm' : m = i ∨ m = j := by simpa using hm
  rcases hm' with rfl | rfl
  · unfold wpOp
    simp only [hi]
    have := h1 (fun a' w' => (isLate late (listed.setIfInBounds m true) = true ∨ S w') ∧ wpAnyE P ops Q S late fuel (listed.setIfInBounds m true) a' w') (fun a' w' h1 h2 => ⟨.inr h1, h2 h1⟩)
    split at this
    · rename_i hw; rw [if_pos hw]; exact .inl this
    · rename_i hw; rw [if_neg hw]; exact this
  · unfold wpOp
    simp only [hj]
    have := h2 (fun a' w' => (isLate late (listed.setIfInBounds m true) = true ∨ S w') ∧ wpAnyE P ops Q S late fuel (listed.setIfInBounds m true) a' w') (fun a' w' h1 h2 => ⟨.inr h1, h2 h1⟩)
    split at this
    · rename_i hw; rw [if_pos hw]; exact .inl this
    · rename_i hw; rw [if_neg hw]; exact this
end

section
variable {P : Program} {ops : Array Oper} {rest : List Oper} {o : Oper} {a : Act} {K : Act → World → Prop} {Q : Exit → Act → World → Prop}
/-- 'append(v, y...)' of bytes, at the operation. -/
theorem wp_appendB {w0 W : World} {base : Nat} (s x : Operand) (t e : TypeId)
    (ho : o.op = .call { callee := .builtin .append, args := #[s, x], argTypes := #[t, t] })
    (ht : P.underlying t = some (.slice e)) (hinfo : (P.info? e).map (fun i => (i.zero, i.size, i.bytes)) = some (some (.int .u8 0), 1, 1))
    (v : Value) (xs ys : List UInt8) (hs : a.eval s = v) (A : Option Addr) (m c : Nat) (hx : a.eval x = .slice A m c) (B : Nat) (hr : Reads W B 1 A m (bs ys))
    (HO : OwnB W base e v xs) (HB : Below base w0 W) (hbase : base ≤ W.heap.size) (hl : xs.length + m ≤ 140737488355328)
    (h : ∀ v1 w1, OwnB w1 base e v1 (xs ++ ys) → Below base w0 w1 → W.grownBy w1 v.ownBlock → (v1.ownBlock = v.ownBlock ∨ v1.ownBlock = some W.heap.size) → K (a.put o.dst v1) w1) :
    Oper.wp P o a W K Q := by
  obtain ⟨i0, hi, hzz⟩ := Option.map_eq_some_iff.1 hinfo
  simp only [Prod.mk.injEq] at hzz
  obtain ⟨hz0, hz1, hz2⟩ := hzz
  refine wp_append_any W s x t ho base e i0 _ 1 1 ht hi hz0 hz1 hz2 rfl (by omega) v (bs xs).length (bs xs) hs HO B A m c (bs ys) hx hr (bs_one _) (by rw [bs_length]; simp only [maxLen]; omega) (by rw [bs_length]; omega) hbase ?_
  intro v1 w1 hown hg hat
  refine h v1 w1 ?_ (HB.grown hg hbase (Own.lo HO)) hg hat
  unfold OwnB
  rw [bs_append]
  exact Own.of _ hown
/-- 'append(v, s...)', s a string. -/
theorem wpList_appendStr {w0 W : World} {base : Nat} (hgd : o.guard = none) (sl x : Operand) (t u e : TypeId)
    (ho : o.op = .call { callee := .builtin .append, args := #[sl, x], argTypes := #[t, u] })
    (ht : P.underlying t = some (.slice e)) (hu : P.underlying u = some .string) (hinfo : (P.info? e).map (fun i => (i.zero, i.size, i.bytes)) = some (some (.int .u8 0), 1, 1))
    (v : Value) (xs : List UInt8) (hs : a.eval sl = v) (s : ByteArray) (hx : a.eval x = .string s)
    (HO : OwnB W base e v xs) (HB : Below base w0 W) (hbase : base ≤ W.heap.size) (hl : xs.length + s.size ≤ 140737488355328)
    (h : ∀ v1 w1, OwnB w1 base e v1 (xs ++ s.toList) → Below base w0 w1 → W.grownBy w1 v.ownBlock → wpList P ops Q rest (a.put o.dst v1) w1) :
    wpList P ops Q (o :: rest) a W := by
  obtain ⟨i0, hi, hzz⟩ := Option.map_eq_some_iff.1 hinfo
  simp only [Prod.mk.injEq] at hzz
  obtain ⟨hz0, hz1, hz2⟩ := hzz
  refine Lib.wpList_append_own_string W hgd sl x t u ho base e i0 ht hu hi hz0 hz1 hz2 v (bs xs).length (bs xs) hs HO s hx (by rw [bs_length]; simp only [maxLen]; omega) (by rw [bs_length]; omega) hbase ?_
  intro v1 w1 hown hg _
  refine h v1 w1 ?_ (HB.grown hg hbase (Own.lo HO)) hg
  unfold OwnB
  rw [bs_append]
  have : Lib.strCells s = bs s.toList := by rw [ByteArray.toList_eq]; rfl
  rw [this] at hown
  exact Own.of _ hown
end

/-- Bytes under construction beside a variable's block. -/
structure BuildB (w : World) (N : Nat) (t : TypeId) (cs : Array Value) (W : World) (u : Value) (xs : List UInt8) : Prop where
  own : OwnB W w.heap.size 5 u xs
  bel : Below w.heap.size w W
  box : Blk W N t cs
section
variable {w W W' : World} {N : Nat} {t : TypeId} {cs : Array Value} {u : Value} {xs : List UInt8}
theorem BuildB.alloc (h : BuildB w N t cs W u xs) (o : Obj) : BuildB w N t cs (W.alloc o) u xs := ⟨Own.alloc' h.own o, h.bel.alloc h.bel.size o, h.box.alloc o⟩
theorem BuildB.drew (h : BuildB w N t cs W u xs) : BuildB w N t cs W.drew u xs := ⟨Own.drew h.own, h.bel.drew, h.box.drew⟩
theorem BuildB.below (h : BuildB w N t cs W u xs) (hb : Below W.heap.size W W') : BuildB w N t cs W' u xs := ⟨Own.below h.own hb, Below.step h.bel h.bel.size hb, h.box.below hb h.box.lt⟩
theorem BuildB.apart {b : Nat} {v : Value} {ys : List UInt8} {e : TypeId} (h : BuildB w N t cs W u xs) (hv : OwnB W' b 5 v ys) (hW : Below W.heap.size W W') (hb : b = W.heap.size) : ∀ k, u.ownBlock = some k → v.ownBlock ≠ some k := by
  intro k hk he
  have h1 := Own.lo hv k he
  have h2 := Own.hi h.own k hk
  omega
end
section
variable {P : Program} {ops : Array Oper} {rest : List Oper} {o : Oper} {a : Act} {K : Act → World → Prop} {Q : Exit → Act → World → Prop}
theorem wp_build {w W : World} {N : Nat} {bt : TypeId} {cs : Array Value} {v : Value} {xs : List UInt8} (H : BuildB w N bt cs W v xs) (hne : 5 ≠ bt) (s x : Operand) (t : TypeId)
    (ho : o.op = .call { callee := .builtin .append, args := #[s, x], argTypes := #[t, t] })
    (ht : P.underlying t = some (.slice 5)) (hinfo : (P.info? 5).map (fun i => (i.zero, i.size, i.bytes)) = some (some (.int .u8 0), 1, 1))
    (ys : List UInt8) (hs : a.eval s = v) (A : Option Addr) (m c : Nat) (hx : a.eval x = .slice A m c) (B : Nat) (hr : Reads W B 1 A m (bs ys)) (hl : xs.length + m ≤ 140737488355328)
    (h : ∀ v1 w1, BuildB w N bt cs w1 v1 (xs ++ ys) → W.grownBy w1 v.ownBlock → K (a.put o.dst v1) w1) :
    Oper.wp P o a W K Q :=
  wp_appendB s x t _ ho ht hinfo v xs ys hs A m c hx B hr H.own H.bel H.bel.size hl fun v1 w1 h1 h2 h3 _ => h v1 w1 ⟨h1, h2, H.box.grown h3 (fun e => own_blk_ne H.own H.box hne e.symm)⟩ h3
end

theorem reads_blk1 {w : World} {g : Nat} {t : TypeId} {c : UInt8} {q : Int} (h : Blk w g t #[.int .u8 q]) (hq : q = (c.toNat : Int) := by rfl) : Reads w w.heap.size 1 (some ⟨g, 0, none⟩) 1 (bs [c]) :=
  ⟨rfl, fun _ => ⟨_, rfl, h.lt, World.news_of_block (cs := (bs [c]).toArray) (t := t) (fr := (0, 0)) (by rw [show (bs [c]).toArray = #[.int .u8 q] by simp [bs, hq]]; exact h)⟩⟩
theorem varB_len : ∀ (k x : Nat), 1 ≤ k → x < 128 ^ k → (varB x).length ≤ k
  | 0, _, h, _ => by omega
  | k + 1, x, _, hx => by
    by_cases h : x < 128
    · rw [varB_small h]; simp
    · rw [varB_big (by omega), List.length_cons]
      rcases Nat.eq_zero_or_pos k with h0 | h0
      · subst h0; omega
      · have := varB_len k (x / 128) h0 (by rw [Nat.pow_succ] at hx; omega)
        omega

theorem CL.below {w w' : World} {v : Value} {xs : List (Chg × Value)} (h : CL w v xs) (hb : Below w.heap.size w w') : CL w' v xs := by
  obtain ⟨A, c, rfl, hc, hm, hn, hr, hxs⟩ := h
  exact ⟨A, c, rfl, hc, hm, hn, (hr.below hb).more hb.size, fun x hx => ⟨(hxs x hx).1.below hb, (hxs x hx).2⟩⟩

/-- A change's bytes. -/
def encC (c : Chg) : List UInt8 := [if c.del then 1 else 0] ++ varB c.key.size ++ c.key.toList ++ (if c.del then [] else varB c.val.length ++ c.val)
def encB (cs : List Chg) : List UInt8 := varB cs.length ++ cs.flatMap encC

/-- What changes that can be are. -/
structure GoodC (cs : List Chg) : Prop where
  pos : 1 ≤ cs.length
  max : cs.length ≤ 16
  key : ∀ c ∈ cs, namedB c.key.toList = true
  val : ∀ c ∈ cs, c.val.length ≤ 4096
  del : ∀ c ∈ cs, c.del = true → c.val = []
  apart : cs.Pairwise fun a b => a.key.toList ≠ b.key.toList
theorem checkL_zero : ∀ (cs pre : List Chg), checkL pre cs = 0 → (∀ c ∈ cs, namedB c.key.toList = true ∧ c.val.length ≤ 4096 ∧ (c.del = true → c.val = []) ∧ ∀ p ∈ pre, p.key.toList ≠ c.key.toList) ∧ cs.Pairwise fun a b => a.key.toList ≠ b.key.toList
  | [], _, _ => ⟨by simp, List.Pairwise.nil⟩
  | c :: r, pre, h => by
    rw [checkL] at h
    split at h
    · cases h
    split at h
    · cases h
    split at h
    · cases h
    split at h
    · cases h
    rename_i h1 h2 h3 h4
    obtain ⟨i1, i2⟩ := checkL_zero r (pre ++ [c]) h
    refine ⟨fun x hx => ?_, List.pairwise_cons.2 ⟨fun y hy => (i1 y hy).2.2.2 c (by simp), i2⟩⟩
    rcases List.mem_cons.1 hx with rfl | hx
    · refine ⟨by simpa using h1, by omega, fun hd => ?_, fun p hp he => h4 (List.any_eq_true.2 ⟨p, hp, by simpa using he⟩)⟩
      rw [hd] at h3
      exact List.eq_nil_of_length_eq_zero (by simpa using h3)
    · obtain ⟨a, b, d, e⟩ := i1 x hx
      exact ⟨a, b, d, fun p hp => e p (by simp [hp])⟩
theorem check_good {cs : List Chg} (h : checkG cs = 0) : GoodC cs := by
  unfold checkG at h
  split at h
  · cases h
  · rename_i h0
    obtain ⟨i1, i2⟩ := checkL_zero cs [] h
    exact ⟨by omega, by omega, fun c hc => (i1 c hc).1, fun c hc => (i1 c hc).2.1, fun c hc => (i1 c hc).2.2.1, i2⟩
theorem namedB_len {s : List UInt8} (h : namedB s = true) : 1 ≤ s.length ∧ s.length ≤ 40 := by
  unfold namedB at h
  simp only [Bool.and_eq_true, decide_eq_true_eq, Bool.not_eq_true', List.isEmpty_eq_false_iff] at h
  obtain ⟨⟨_, h1⟩, h2⟩ := h
  exact ⟨List.length_pos_iff.2 h1, h2⟩
theorem encC_len {c : Chg} (h1 : namedB c.key.toList = true) (h2 : c.val.length ≤ 4096) : (encC c).length ≤ 4160 := by
  have h := namedB_len h1
  rw [str_length] at h
  have a := varB_len 2 c.key.size (by omega) (by omega)
  have b := varB_len 2 c.val.length (by omega) (by omega)
  unfold encC
  rw [List.length_append, List.length_append, List.length_append, str_length]
  have : (if c.del = true then [] else varB c.val.length ++ c.val).length ≤ 4098 := by
    split
    · simp
    · rw [List.length_append]; omega
  simp only [List.length_cons, List.length_nil]
  omega
theorem flat_len : ∀ (cs : List Chg), (∀ c ∈ cs, (encC c).length ≤ 4160) → (cs.flatMap encC).length ≤ 4160 * cs.length
  | [], _ => by simp
  | c :: r, h => by
    rw [List.flatMap_cons, List.length_append, List.length_cons]
    have := flat_len r (fun x hx => h x (by simp [hx]))
    have := h c (by simp)
    omega
end Go.Proofs.Ytmfjhejhbomlpaa
