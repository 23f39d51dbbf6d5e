/- More words: rows of the call's own whose length is their list's; one element appended; bytes. -/
import Derived.Test.YtmfjhejhbomlpaaBase
set_option linter.unusedVariables false
set_option linter.unusedSimpArgs false
namespace Go.Proofs.Ytmfjhejhbomlpaa
open Go.RowKit

/-- A row of one-cell elements that the call owns: its length is the list's. -/
def Own (w : World) (base : Nat) (e : TypeId) (v : Value) (xs : List Value) : Prop := w.ownsRow base e 1 v xs.length xs

section
variable {w w' W : World} {base : Nat} {e : TypeId} {v : Value} {xs : List Value}
theorem Own.nil (w : World) (base : Nat) (e : TypeId) : Own w base e (.slice none 0 0) [] := ⟨by simp, .inl ⟨rfl, rfl⟩⟩
theorem Own.of (n : Nat) (h : w.ownsRow base e 1 v n xs) : Own w base e v xs := by
  have := h.1
  rw [Nat.mul_one] at this
  unfold Own
  rw [this]
  exact h
theorem Own.slice (h : Own w base e v xs) : ∃ A c, v = .slice A xs.length c ∧ xs.length ≤ c := by
  rcases h.2 with ⟨rfl, h0⟩ | ⟨g, cap, cur, rfl, _, _, hc, _⟩
  · exact ⟨none, 0, by rw [h0], by omega⟩
  · exact ⟨_, cap, rfl, hc⟩
theorem Own.lo (h : Own w base e v xs) : ∀ k, v.ownBlock = some k → base ≤ k := fun k hk => (h.lt k hk).1
theorem Own.hi (h : Own w base e v xs) : ∀ k, v.ownBlock = some k → k < w.heap.size := fun k hk => (h.lt k hk).2
theorem Own.below (h : Own w base e v xs) (hb : Below w.heap.size w w') : Own w' base e v xs :=
  World.ownsRow.kept h (row := none) ⟨hb.os, hb.tape, hb.output, hb.size, fun k hk _ => hb.block k hk⟩ (by cases v.ownBlock <;> simp)
theorem Own.drew (h : Own w base e v xs) : Own w.drew base e v xs := h
theorem Own.drewN (h : Own w base e v xs) (n : Nat) : Own (w.drewN n) base e v xs := h
theorem Own.grown {row : Option Nat} (h : Own w base e v xs) (hg : w.grownBy w' row) (hne : v.ownBlock = none ∨ v.ownBlock ≠ row) : Own w' base e v xs := World.ownsRow.kept h hg hne
theorem Own.alloc' (h : Own w base e v xs) (o : Obj) : Own (w.alloc o) base e v xs := World.ownsRow.alloc h o
theorem Own.low (h : Own w base e v xs) {b : Nat} (hb : b ≤ base) : Own w b e v xs := by
  refine ⟨h.1, ?_⟩
  rcases h.2 with h0 | ⟨g, cap, cur, hv, hg, rest⟩
  · exact .inl h0
  · exact .inr ⟨g, cap, cur, hv, by omega, rest⟩
theorem Own.reads (h : Own w base e v xs) : ∃ A c, v = .slice A xs.length c ∧ xs.length ≤ c ∧ Reads w w.heap.size 1 A xs.length xs := by
  obtain ⟨A, c, rfl, hc⟩ := h.slice
  exact ⟨A, c, rfl, hc, Reads.of_own h⟩
theorem Below.toGrown (hb : Below w.heap.size w w') (row : Option Nat) : w.grownBy w' row := ⟨hb.os, hb.tape, hb.output, hb.size, fun k hk _ => hb.block k hk⟩
theorem Below.step {B : Nat} {w0 : World} (h : Below B w0 w) (hB : B ≤ w.heap.size) (k : Below w.heap.size w w') : Below B w0 w' := h.trans (k.mono hB)
theorem Below.drewN {B : Nat} {a w : World} (h : Below B a w) (n : Nat) : Below B a (w.drewN n) := ⟨h.os, h.tape, h.output, h.size, h.block⟩
end

section
variable {P : Program} {ops : Array Oper} {rest : List Oper} {o : Oper} {a : Act} {Q : Exit → Act → World → Prop}
/-- 'append(v, y)': y has been laid into a block of its own. -/
theorem wpList_append1 {w0 W : World} {base : Nat} (hgd : o.guard = none) (s x : Operand) (t e : TypeId) (z : Value) (bytes : Nat)
    (ho : o.op = .call { callee := .builtin .append, args := #[s, x], argTypes := #[t, t] })
    (ht : P.underlying t = some (.slice e)) (hinfo : (P.info? e).map (fun i => (i.zero, i.size, i.bytes)) = some (some z, 1, bytes)) (hz : z.cells.size = 1) (hb0 : 0 < bytes)
    (v : Value) (xs : List Value) (y : Value) (hs : a.eval s = v) (hx : a.eval x = .slice (some ⟨W.heap.size, 0, none⟩) 1 1) (h1 : y.oneCell' = true)
    (HO : Own W base e v xs) (HB : Below base w0 W) (hbase : base ≤ W.heap.size) (hl : (xs.length + 1) * bytes ≤ 140737488355328)
    (h : ∀ v1 w1, Own w1 base e v1 (xs ++ [y]) → Below base w0 w1 → W.grownBy w1 v.ownBlock → (v1.ownBlock = v.ownBlock ∨ v1.ownBlock = some (W.heap.size + 1)) → wpList P ops Q rest (a.put o.dst v1) w1) :
    wpList P ops Q (o :: rest) a (W.alloc (.cells #[y] e)) := by
  obtain ⟨i0, hi, hzz⟩ := Option.map_eq_some_iff.1 hinfo
  simp only [Prod.mk.injEq] at hzz
  obtain ⟨hz0, hz1, hz2⟩ := hzz
  have hlen : xs.length + 1 ≤ 140737488355328 := Nat.le_trans (Nat.le_mul_of_pos_right _ hb0) hl
  refine wpList_append_own_at (W.alloc (.cells #[y] e)) hgd s x t ho base e i0 z 1 bytes ht hi hz0 hz1 hz2 hz (by omega) v xs.length xs hs (World.ownsRow.alloc HO _) ⟨W.heap.size, 0, none⟩ 1 1 [y] hx rfl
    (World.news_of_block (cs := #[y]) (t := e) (fr := (0, 0)) (heap_alloc_new W _)) (by simpa using h1) (by simp only [maxLen]; omega) hl (by simp; omega) ?_
  intro v1 w1 hown hg _ hat
  refine h v1 w1 (Own.of _ hown) ((HB.alloc hbase _).grown hg (by simp; omega) (Own.lo HO)) (World.grownBy.trans (World.grownBy_alloc W _ _) hg) ?_
  rcases hat with hat | hat
  · exact .inl hat
  · exact .inr (by simpa using hat)

/-- 'append(v, s...)': s whatever can be read. -/
theorem wpList_appendAll {w0 W : World} {base : Nat} (hgd : o.guard = none) (s x : Operand) (t e : TypeId) (z : Value) (bytes : Nat)
    (ho : o.op = .call { callee := .builtin .append, args := #[s, x], argTypes := #[t, t] })
    (ht : P.underlying t = some (.slice e)) (hinfo : (P.info? e).map (fun i => (i.zero, i.size, i.bytes)) = some (some z, 1, bytes)) (hz : z.cells.size = 1) (hb0 : 0 < bytes)
    (v : Value) (xs : List Value) (hs : a.eval s = v) (A : Option Addr) (m c : Nat) (ys : List Value) (hx : a.eval x = .slice A m c) (B : Nat) (hr : Reads W B 1 A m ys) (h1 : ∀ u ∈ ys, u.oneCell' = true)
    (HO : Own W base e v xs) (HB : Below base w0 W) (hbase : base ≤ W.heap.size) (hl : (xs.length + m) * bytes ≤ 140737488355328)
    (h : ∀ v1 w1, Own w1 base e v1 (xs ++ ys) → Below base w0 w1 → W.grownBy w1 v.ownBlock → (v1.ownBlock = v.ownBlock ∨ v1.ownBlock = some W.heap.size) → wpList P ops Q rest (a.put o.dst v1) w1) :
    wpList P ops Q (o :: rest) a W := by
  obtain ⟨i0, hi, hzz⟩ := Option.map_eq_some_iff.1 hinfo
  simp only [Prod.mk.injEq] at hzz
  obtain ⟨hz0, hz1, hz2⟩ := hzz
  have hlen : xs.length + m ≤ 140737488355328 := Nat.le_trans (Nat.le_mul_of_pos_right _ hb0) hl
  refine wpList_append_any W hgd s x t ho base e i0 z 1 bytes ht hi hz0 hz1 hz2 hz (by omega) v xs.length xs hs HO B A m c ys hx hr h1 (by simp only [maxLen]; omega) hl hbase ?_
  intro v1 w1 hown hg hat
  exact h v1 w1 (Own.of _ hown) (HB.grown hg hbase (Own.lo HO)) hg hat
end

theorem ret_int {k : IntKind} {a b : Int} (h : a = b) : Ending.returned (.int k a) = Ending.returned (.int k b) := by rw [h]
theorem ret_bool {a b : Bool} (h : a = b) : Ending.returned (.bool a) = Ending.returned (.bool b) := by rw [h]
/-- Bytes as cells. -/
def bs (xs : List UInt8) : List Value := xs.map fun x => Value.int .u8 (x.toNat : Int)
theorem bs_length (xs : List UInt8) : (bs xs).length = xs.length := by simp [bs]
theorem bs_append (xs ys : List UInt8) : bs (xs ++ ys) = bs xs ++ bs ys := by simp [bs]
theorem bs_snoc (xs : List UInt8) (y : UInt8) (q : Int) (h : q = (y.toNat : Int)) : bs xs ++ [.int .u8 q] = bs (xs ++ [y]) := by simp [bs, h]
theorem bs_one (xs : List UInt8) : ∀ u ∈ bs xs, u.oneCell' = true := by
  intro u hu
  simp only [bs, List.mem_map] at hu
  obtain ⟨x, _, rfl⟩ := hu
  rfl
theorem Reads.byte {w : World} {B n k : Nat} {A : Option Addr} {xs : List UInt8} (h : Reads w B 1 A n (bs xs)) (hk : k < n) :
    ∃ ad, A = some ad ∧ ∃ hl : k < xs.length, w.cell? (ad.add k) = some (.int .u8 ((xs[k]).toNat : Int)) := by
  obtain ⟨ad, u, e, _, hx, hc⟩ := h.at_ hk
  have hl : k < xs.length := by have := h.1; rw [bs_length] at this; omega
  refine ⟨ad, e, hl, ?_⟩
  rw [hc, ← hx]
  simp [bs, hl]
/-- Bytes that the call owns. -/
def OwnB (w : World) (base : Nat) (e : TypeId) (v : Value) (xs : List UInt8) : Prop := Own w base e v (bs xs)
/-- A slice of bytes that can be read: everything that is there. -/
def RB (w : World) (v : Value) (xs : List UInt8) : Prop := ∃ A c, v = .slice A xs.length c ∧ xs.length ≤ c ∧ xs.length ≤ 140737488351232 ∧ c ≤ maxLen ∧ Reads w w.heap.size 1 A xs.length (bs xs)
theorem RB.mk' {w : World} {A : Option Addr} {n c : Nat} {xs : List UInt8} (hl : xs.length = n) (hc : n ≤ c) (hn : n ≤ 140737488351232) (hm : c ≤ maxLen) (hr : Reads w w.heap.size 1 A n (bs xs)) : RB w (.slice A n c) xs := by
  subst hl
  exact ⟨A, c, rfl, hc, hn, hm, hr⟩
theorem Reads.take {w : World} {B n k : Nat} {A : Option Addr} {xs : List Value} (h : Reads w B 1 A n xs) (hk : k ≤ n) : Reads w B 1 A k (xs.take k) := by
  refine ⟨by rw [List.length_take, h.1]; omega, fun h0 => ?_⟩
  obtain ⟨ad, e, hb, hc⟩ := h.2 (by omega)
  refine ⟨ad, e, hb, fun j u hu => hc j u ?_⟩
  rw [List.getElem?_take] at hu
  split at hu
  · exact hu
  · cases hu
theorem bs_take (xs : List UInt8) (k : Nat) : bs (xs.take k) = (bs xs).take k := by simp [bs]
theorem bs_drop (xs : List UInt8) (k : Nat) : bs (xs.drop k) = (bs xs).drop k := by simp [bs]
theorem RB.take {w : World} {A : Option Addr} {n c k : Nat} {xs : List UInt8} (h : RB w (.slice A n c) xs) (hk : k ≤ n) : RB w (.slice A k c) (xs.take k) := by
  obtain ⟨A', c', e, hc, hn, hm, hr⟩ := h
  injection e with e1 e2 e3
  subst e1 e2 e3
  refine RB.mk' (by rw [List.length_take]; omega) (by omega) (by omega) hm ?_
  rw [bs_take]
  exact hr.take hk
theorem RB.drop {w : World} {A : Option Addr} {n c k : Nat} {xs : List UInt8} (h : RB w (.slice A n c) xs) (hk : k ≤ n) : RB w (.slice (if c = k then A else A.map (·.add k)) (n - k) (c - k)) (xs.drop k) := by
  obtain ⟨A', c', e, hc, hn, hm, hr⟩ := h
  injection e with e1 e2 e3
  subst e1 e2 e3
  refine RB.mk' (by rw [List.length_drop]) (by omega) (by omega) (by omega) ?_
  rw [bs_drop]
  have := hr.cut hk hc
  simpa using this
theorem RB.below {w w' : World} {v : Value} {xs : List UInt8} (h : RB w v xs) (hb : Below w.heap.size w w') : RB w' v xs := by
  obtain ⟨A, c, rfl, hc, hn, hm, hr⟩ := h
  exact ⟨A, c, rfl, hc, hn, hm, (hr.below hb).more hb.size⟩
theorem RB.drewN {w : World} {v : Value} {xs : List UInt8} (h : RB w v xs) (n : Nat) : RB (w.drewN n) v xs := h
theorem RB.alloc {w : World} {v : Value} {xs : List UInt8} (h : RB w v xs) (o : Obj) : RB (w.alloc o) v xs := h.below ((Below.refl _ _).alloc (Nat.le_refl _) o)
theorem OwnB.rb {w : World} {base : Nat} {e : TypeId} {v : Value} {xs : List UInt8} (h : OwnB w base e v xs) (hn : xs.length ≤ 140737488351232) : RB w v xs := by
  have hh := h
  obtain ⟨A, c, rfl, hc, hr⟩ := Own.reads h
  rw [bs_length] at hc hr
  simp only [bs_length]
  have hm : c ≤ maxLen := by
    rcases hh.2 with ⟨h1, _⟩ | ⟨g, cap, cur, h1, _, _, _, h2, _⟩
    · injection h1 with _ _ h3
      subst h3
      exact Nat.zero_le _
    · injection h1 with _ _ h3
      subst h3
      exact h2
  exact ⟨A, c, rfl, hc, hn, hm, hr⟩
theorem RB.nil (w : World) : RB w (.slice none 0 0) [] := ⟨none, 0, rfl, Nat.le_refl _, by simp, Nat.zero_le _, Reads.none_⟩
theorem Own.made0 (w : World) (base : Nat) (e : TypeId) (hb : base ≤ w.heap.size) : Own (w.alloc (.cells #[] e)) base e (.slice (some ⟨w.heap.size, 0, none⟩) 0 0) [] :=
  ⟨by simp, .inr ⟨w.heap.size, 0, #[], rfl, hb, heap_alloc_new w _, Nat.le_refl _, Nat.zero_le _, by simp, by simp⟩⟩
theorem run_make_rowN {P : Program} (t e : TypeId) (i : TypeInfo) (z : Value) (ht : P.underlying t = some (.slice e)) (hi : P.info? e = some i) (hz : i.zero = some z)
    (kl kc : IntKind) (n c : Nat) (hnc : n ≤ c) (hbytes : i.bytes * c ≤ 281474976710656) (h63 : c ≤ 9223372036854775807) (w : World) :
    (Instr.makeSlice t (.int kl (n : Int)) (.int kc (c : Int))).run P w = .ok (.slice (some ⟨w.heap.size, 0, none⟩) n c) (w.alloc (.cells (madeCells z.cells (c * i.size)) e)) := by
  have hb : (i.bytes : Int) * (c : Int) ≤ 281474976710656 := by
    have h : ((i.bytes * c : Nat) : Int) ≤ 281474976710656 := by omega
    rwa [Int.natCast_mul] at h
  have hr := run_make (P := P) w t e i z ht hi hz kl kc n c (by omega) (by omega) hb (by omega)
  simp only [Int.toNat_natCast] at hr
  exact hr
end Go.Proofs.Ytmfjhejhbomlpaa
