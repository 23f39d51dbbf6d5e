/- Laws for variables of many cells: laid, stored whole, loaded whole, cut into slices; copy into a block that is known whole. -/
import Derived.Test.YtmfjhejhbomlpaaBase2
import Derived.Deep.MidRow
import Derived.Laws.CopyOwn
import Derived.Laws.Tables
import Derived.StillTailTactics
set_option linter.unusedVariables false
set_option linter.unusedSimpArgs false
namespace Go.Proofs.Ytmfjhejhbomlpaa
open Go.RowKit

theorem setRow_alloc (w : World) (Z cs : Array Value) (t : TypeId) : (w.alloc (.cells Z t)).setRow w.heap.size cs = w.alloc (.cells cs t) := by
  show ({ w with heap := (w.heap.push (.cells Z t)).modify w.heap.size _ } : World) = { w with heap := w.heap.push (.cells cs t) }
  congr 1
  apply Array.ext_getElem?
  intro i
  rw [Array.getElem?_modify]
  by_cases hi : w.heap.size = i
  · subst hi
    simp
  · rw [if_neg hi, Array.getElem?_push, Array.getElem?_push, if_neg (Ne.symm hi), if_neg (Ne.symm hi)]

section
variable {P : Program} {ops : Array Oper} {rest : List Oper} {o : Oper} {a : Act} {Q : Exit → Act → World → Prop} {w : World}
/-- 'new' of a type of many cells: its zero value under a name. -/
theorem wpList_allocZ (hgd : o.guard = none) (E : TypeId) (ho : o.op = .alloc E) (Z : Array Value) (hz : ((P.info? E).bind (·.zero)).map (·.cells) = some Z)
    (h : wpList P ops Q rest (a.put o.dst (.pointer (some ⟨w.heap.size, 0, none⟩))) (w.alloc (.cells Z E))) : wpList P ops Q (o :: rest) a w := by
  refine wpList_plain hgd fun K hK => ?_
  obtain ⟨z, hz1, rfl⟩ := Option.map_eq_some_iff.1 hz
  obtain ⟨i, hi, hiz⟩ := Option.bind_eq_some_iff.1 hz1
  unfold Oper.wp execOp
  have hr : (Instr.alloc E true (.tuple #[])).run P w = .ok (.pointer (some ⟨w.heap.size, 0, none⟩)) (w.alloc (.cells z.cells E)) := by
    simp [Instr.alloc, zeroValue, typeInfo, hi, hiz, newVar, newRow]
  simp only [ho, Sem.run_bind, hr, Result.andThen_ok]
  exact hK _ _ h
/-- A store of the whole of a variable that has just been laid. -/
theorem wpList_store_fresh (hgd : o.guard = none) (ty : TypeId) (x y : Operand) (ho : o.op = .store ty x y)
    (Z cells : Array Value) (t : TypeId) (hx : a.eval x = .pointer (some ⟨w.heap.size, 0, none⟩)) (hy : a.eval y = .agg cells)
    (hi : (P.info? ty).map (·.size) = some cells.size) (hold : Z.size = cells.size) (h1 : cells.all (·.oneCell') = true)
    (h : wpList P ops Q rest (a.put o.dst undef) (w.alloc (.cells cells t))) : wpList P ops Q (o :: rest) a (w.alloc (.cells Z t)) :=
  wpList_store_row hgd ty x y ho w.heap.size cells hx hy t Z (heap_alloc_new w _) hi hold h1 (by rw [setRow_alloc]; exact h)
/-- 'copy' into a block that is known whole, from bytes that can be read. -/
theorem wpList_copy_blk (hgd : o.guard = none) (d s : Operand) (dT sT : TypeId)
    (ho : o.op = .call { callee := .builtin .copy, args := #[d, s], argTypes := #[dT, sT] }) (elem : TypeId) (hu : P.underlying dT = some (.slice elem)) (hsz : (P.info? elem).map (·.size) = some 1)
    (dp : Option Addr) (dLen dCap : Nat) (hd : a.eval d = .slice dp dLen dCap) (A : Option Addr) (n c B : Nat) (hs : a.eval s = .slice A n c) (xs : List Value) (hr : Reads w B 1 A n xs) (h1 : ∀ v ∈ xs, v.oneCell' = true)
    (g off : Nat) (cur : List Value) (t : TypeId) (hg : Blk w g t cur.toArray) (hpos : 0 < dLen → dp = some ⟨g, off, none⟩) (hfit : off + dLen ≤ cur.length) (B0 : Nat) (w0 : World) (hb : Below B0 w0 w) (hBg : B0 ≤ g)
    (h : ∀ w', Blk w' g t (splice cur off (xs.take dLen)).toArray → Below B0 w0 w' → w.grownBy w' (some g) → wpList P ops Q rest (a.put o.dst (goInt ((min n dLen : Nat) : Int))) w') :
    wpList P ops Q (o :: rest) a w := by
  have hxl : xs.length = n := by have := hr.1; omega
  have hlen : (xs.take dLen).length = Nat.min n dLen := by
    rw [List.length_take, hxl]
    exact Nat.min_comm _ _
  by_cases h0 : Nat.min n dLen = 0
  · refine wpList_copy_nothing hgd d s dT sT ho elem hu hsz dp A dLen dCap n c hd hs h0 ?_
    have hm : (min n dLen : Nat) = 0 := h0
    rw [hm] at h
    refine h w ?_ hb (World.grownBy.refl w _)
    have : xs.take dLen = [] := List.eq_nil_of_length_eq_zero (by omega)
    rw [this]
    simpa [splice] using hg
  · have hp : 0 < n ∧ 0 < dLen := by
      have hmin : Nat.min n dLen = min n dLen := rfl
      omega
    obtain rfl := hpos hp.2
    obtain ⟨ad, rfl, _, hc⟩ := hr.2 hp.1
    refine wpList_copy_own hgd d s dT sT ho elem hu hsz g off dLen dCap ad n c hd hs cur.toArray t hg (xs.take dLen) hlen (fun j v hj => hc j v ?_) ?_ (fun v hv => h1 v (List.mem_of_mem_take hv)) ?_
    · rw [List.getElem?_take] at hj
      split at hj
      · exact hj
      · cases hj
    · rw [hlen]
      have hmin : Nat.min n dLen ≤ dLen := Nat.min_le_right _ _
      simp only [List.size_toArray]
      omega
    · rw [hlen, show Nat.min n dLen = min n dLen from rfl]
      refine h _ ?_ (below_setRow hb hBg _) ?_
      · have := setRow_heap w g _ (splice cur off (xs.take dLen)).toArray t _ hg
        simp only [splice, hlen] at this ⊢
        exact this
      · exact ⟨rfl, rfl, rfl, by simp, fun k hk hne => setRow_other w g k _ (fun e => hne (by rw [e]))⟩
end

section
variable {P : Program} {ops : Array Oper} {o : Oper} {a : Act} {K : Act → World → Prop} {Q : Exit → Act → World → Prop}
/-- 'append(v, y)' at the operation: y, of size cells, has been laid into a block of its own. -/
theorem wp_appendS {w0 W : World} {base : Nat} (s x : Operand) (t e : TypeId) (z : Value) (size bytes : Nat)
    (ho : o.op = .call { callee := .builtin .append, args := #[s, x], argTypes := #[t, t] })
    (ht : P.underlying t = some (.slice e)) (hinfo : (P.info? e).map (fun i => (i.zero, i.size, i.bytes)) = some (some z, size, bytes)) (hz : z.cells.size = size) (hsz : 0 < size) (hb0 : 0 < bytes)
    (v : Value) (n : Nat) (xs ys : List Value) (hs : a.eval s = v) (hx : a.eval x = .slice (some ⟨W.heap.size, 0, none⟩) 1 1) (h1 : ∀ u ∈ ys, u.oneCell' = true) (hy : ys.length = size)
    (HO : W.ownsRow base e size v n xs) (HB : Below base w0 W) (hbase : base ≤ W.heap.size) (hl : (n + 1) * bytes ≤ 140737488355328)
    (h : ∀ v1 w1, w1.ownsRow base e size v1 (n + 1) (xs ++ ys) → Below base w0 w1 → W.grownBy w1 v.ownBlock → (v1.ownBlock = v.ownBlock ∨ v1.ownBlock = some (W.heap.size + 1)) → K (a.put o.dst v1) w1) :
    Oper.wp P o a (W.alloc (.cells ys.toArray e)) K Q := by
  obtain ⟨i0, hi, hzz⟩ := Option.map_eq_some_iff.1 hinfo
  simp only [Prod.mk.injEq] at hzz
  obtain ⟨hz0, hz1, hz2⟩ := hzz
  have hlen : n + 1 ≤ 140737488355328 := Nat.le_trans (Nat.le_mul_of_pos_right _ hb0) hl
  refine wp_append_any (W.alloc (.cells ys.toArray e)) s x t ho base e i0 z size bytes ht hi hz0 hz1 hz2 hz hsz v n xs hs (HO.alloc _) (W.heap.size + 1) (some ⟨W.heap.size, 0, none⟩) 1 1 ys hx
    ⟨by omega, fun _ => ⟨_, rfl, by simp, World.news_of_block (cs := ys.toArray) (t := e) (fr := (0, 0)) (heap_alloc_new W _)⟩⟩ h1 (by simp only [maxLen]; omega) hl (by simp; omega) ?_
  intro v1 w1 hown hg hat
  refine h v1 w1 hown ((HB.alloc hbase _).grown hg (by simp; omega) (fun k hk => (HO.lt k hk).1)) (World.grownBy.trans (World.grownBy_alloc W _ _) hg) ?_
  rcases hat with hat | hat
  · exact .inl hat
  · exact .inr (by simpa using hat)
end

section
variable {P : Program} {ops : Array Oper} {rest : List Oper} {o : Oper} {a : Act} {Q : Exit → Act → World → Prop}
/-- 'append(v, y)': y, of size cells, has been laid into a block of its own. -/
theorem wpList_appendS {w0 W : World} {base : Nat} (hgd : o.guard = none) (s x : Operand) (t e : TypeId) (z : Value) (size bytes : Nat)
    (ho : o.op = .call { callee := .builtin .append, args := #[s, x], argTypes := #[t, t] })
    (ht : P.underlying t = some (.slice e)) (hinfo : (P.info? e).map (fun i => (i.zero, i.size, i.bytes)) = some (some z, size, bytes)) (hz : z.cells.size = size) (hsz : 0 < size) (hb0 : 0 < bytes)
    (v : Value) (n : Nat) (xs ys : List Value) (hs : a.eval s = v) (hx : a.eval x = .slice (some ⟨W.heap.size, 0, none⟩) 1 1) (h1 : ∀ u ∈ ys, u.oneCell' = true) (hy : ys.length = size)
    (HO : W.ownsRow base e size v n xs) (HB : Below base w0 W) (hbase : base ≤ W.heap.size) (hl : (n + 1) * bytes ≤ 140737488355328)
    (h : ∀ v1 w1, w1.ownsRow base e size v1 (n + 1) (xs ++ ys) → Below base w0 w1 → W.grownBy w1 v.ownBlock → (v1.ownBlock = v.ownBlock ∨ v1.ownBlock = some (W.heap.size + 1)) → wpList P ops Q rest (a.put o.dst v1) w1) :
    wpList P ops Q (o :: rest) a (W.alloc (.cells ys.toArray e)) := by
  obtain ⟨i0, hi, hzz⟩ := Option.map_eq_some_iff.1 hinfo
  simp only [Prod.mk.injEq] at hzz
  obtain ⟨hz0, hz1, hz2⟩ := hzz
  have hlen : n + 1 ≤ 140737488355328 := Nat.le_trans (Nat.le_mul_of_pos_right _ hb0) hl
  refine wpList_append_any (W.alloc (.cells ys.toArray e)) hgd s x t ho base e i0 z size bytes ht hi hz0 hz1 hz2 hz hsz v n xs hs (HO.alloc _) (W.heap.size + 1) (some ⟨W.heap.size, 0, none⟩) 1 1 ys hx
    ⟨by omega, fun _ => ⟨_, rfl, by simp, World.news_of_block (cs := ys.toArray) (t := e) (fr := (0, 0)) (heap_alloc_new W _)⟩⟩ h1 (by simp only [maxLen]; omega) hl (by simp; omega) ?_
  intro v1 w1 hown hg hat
  refine h v1 w1 hown ((HB.alloc hbase _).grown hg (by simp; omega) (fun k hk => (HO.lt k hk).1)) (World.grownBy.trans (World.grownBy_alloc W _ _) hg) ?_
  rcases hat with hat | hat
  · exact .inl hat
  · exact .inr (by simpa using hat)
end

theorem frozen_alloc_lt (w : World) (o : Obj) (a : Addr) (h : a.block < w.heap.size) : (w.alloc o).frozen? a = w.frozen? a := World.frozen?_of_block (Below.heap_alloc w o a.block h)
theorem bs_all (xs : List UInt8) : (bs xs).toArray.all (·.oneCell') = true := all_oneCell_toArray (bs_one xs)
theorem wr_one (k : Int) (xs : List UInt8) : ∀ v ∈ (Value.int .i64 k :: bs xs), v.oneCell' = true := by
  intro v hv
  rcases List.mem_cons.1 hv with rfl | h
  · rfl
  · exact bs_one xs v h
theorem wr_all (k : Int) (xs : List UInt8) : (Value.int .i64 k :: bs xs).toArray.all (·.oneCell') = true := all_oneCell_toArray (wr_one k xs)
theorem Own.made (w : World) (base : Nat) (e : TypeId) (xs : List Value) (hb : base ≤ w.heap.size) (hm : xs.length ≤ maxLen) : Own (w.alloc (.cells xs.toArray e)) base e (.slice (some ⟨w.heap.size, 0, none⟩) xs.length xs.length) xs :=
  ⟨by simp, .inr ⟨w.heap.size, xs.length, xs.toArray, rfl, hb, heap_alloc_new w _, Nat.le_refl _, hm, by simp, by simp⟩⟩
end Go.Proofs.Ytmfjhejhbomlpaa
namespace Go.Proofs.Ytmfjhejhbomlpaa
open Go.RowKit
/-- The cells from a place on, as one aggregate. -/
def aggOf (w : World) (g o n : Nat) : Array Value := ((List.range n).map fun j => (w.cell? ⟨g, o + j, none⟩).getD undef).toArray
/-- That there are so many. -/
def hasCells (w : World) (g o n : Nat) : Bool := (List.range n).all fun j => (w.cell? ⟨g, o + j, none⟩).isSome
theorem aggOf_range {w : World} {g o : Nat} {cs : List Value} (h : w.rangeAt g o cs) : aggOf w g o cs.length = cs.toArray ∧ hasCells w g o cs.length = true := by
  constructor
  · unfold aggOf
    congr 1
    apply List.ext_getElem
    · simp
    · intro i h1 h2
      simp only [List.getElem_map, List.getElem_range]
      rw [h i cs[i] (List.getElem?_eq_getElem h2)]
      rfl
  · unfold hasCells
    rw [List.all_eq_true]
    intro j hj
    rw [List.mem_range] at hj
    rw [h j cs[j] (List.getElem?_eq_getElem hj)]
    rfl
theorem range_aggOf (w : World) (g o n : Nat) (h : hasCells w g o n = true) : w.rangeAt g o (aggOf w g o n).toList := by
  intro j v hj
  unfold aggOf at hj
  unfold hasCells at h
  rw [List.all_eq_true] at h
  simp only [List.getElem?_map] at hj
  obtain ⟨k, hk, rfl⟩ := Option.map_eq_some_iff.1 hj
  have hjn : j < n := by
    have := (List.getElem?_eq_some_iff.1 hk).1
    simpa using this
  rw [List.getElem?_range hjn] at hk
  injection hk with hk
  subst hk
  have := h j (by simpa using hjn)
  obtain ⟨u, hu⟩ := Option.isSome_iff_exists.1 this
  rw [hu]
  rfl
theorem run_loadAgg {P : Program} (ty : TypeId) (d : TypeDesc) (n : Nat) (hu : P.underlying ty = some d) (hd : d.isRow = true) (hi : (P.info? ty).map (·.size) = some n) (w : World) (g o : Nat) (h : hasCells w g o n = true) :
    (Instr.loadAt ty (.pointer (some ⟨g, o, none⟩))).run P w = .ok (.agg (aggOf w g o n)) w :=
  run_loadAt_mid w g o ty (aggOf w g o n).toList d (range_aggOf w g o n h) hu hd (by rw [hi]; simp [aggOf])
end Go.Proofs.Ytmfjhejhbomlpaa
namespace Go.Proofs.Ytmfjhejhbomlpaa
open Go.RowKit
theorem fold_set (cs : List Value) : ∀ (pre : List Value) (Z : List Value), Z.length = cs.length →
    (cs.zipIdx pre.length).foldl (fun (acc : Array Value) (x : Value × Nat) => acc.setIfInBounds (0 + x.2) x.1) (pre ++ Z).toArray = (pre ++ cs).toArray := by
  induction cs with
  | nil =>
    intro pre Z hZ
    have : Z = [] := List.eq_nil_of_length_eq_zero hZ
    subst this
    rfl
  | cons c cs ih =>
    intro pre Z hZ
    match Z, hZ with
    | z :: Z, hZ =>
      have h := ih (pre ++ [c]) Z (by simpa using hZ)
      simp only [List.length_append, List.length_cons, List.length_nil, List.append_assoc, List.cons_append, List.nil_append] at h
      simp only [List.zipIdx_cons, List.foldl_cons]
      rw [show (pre ++ z :: Z).toArray.setIfInBounds (0 + pre.length) c = (pre ++ c :: Z).toArray by simp]
      exact h
theorem fill_all (n : Nat) (Z : Array Value) (cs : List Value) (hZ : Z.size = n) (hl : cs.length = n) : Instr.fill (fun i => some (i * n, n)) Z [(0, .agg cs.toArray)] = some cs.toArray := by
  obtain ⟨Z⟩ := Z
  have h := fold_set cs [] Z (by simp at hZ; omega)
  simp only [List.length_nil, List.nil_append] at h
  have hc : ¬ ((Value.agg cs.toArray).cells.size ≠ n ∨ 0 * n + (Value.agg cs.toArray).cells.size > (List.toArray Z).size) := by
    simp [Value.cells] at hZ ⊢
    omega
  unfold Instr.fill
  simp only
  rw [if_neg (by simpa using hc)]
  unfold Instr.fill
  refine congrArg some (Eq.trans ?_ h)
  rw [← Array.foldl_toList, Array.toList_zipIdx]
  simp [Value.cells]
theorem run_buildSlice_one {P : Program} (t e : TypeId) (n : Nat) (z : Value) (ht : P.underlying t = some (.slice e)) (hz : ((P.info? e).map fun i => (i.zero, i.size)) = some (some z, n)) (hn : z.cells.size = n) (h0 : 0 < n) (hmax : n ≤ 16777216) (w : World) (cs : Array Value) (hcs : cs.size = n) :
    (Instr.buildSlice t 1 #[(0, .agg cs)]).run P w = .ok (.slice (some ⟨w.heap.size, 0, none⟩) 1 1) (w.alloc (.cells cs e)) := by
  obtain ⟨i, hi, hzz⟩ := Option.map_eq_some_iff.1 hz
  simp only [Prod.mk.injEq] at hzz
  obtain ⟨hz0, hz1⟩ := hzz
  obtain ⟨cs⟩ := cs
  have hl : cs.length = n := by simpa using hcs
  have hf := fill_all n ((Array.range (1 * n)).map fun x => z.cells[x % z.cells.size]!) cs (by simp) hl
  rw [Nat.one_mul] at hf
  simp [Instr.buildSlice, run_underlying ht, sizeOf, typeInfo, zeroValue, hi, hz0, hz1, newRow]
  rw [if_neg (by omega), if_neg (by omega), hf]
  simp
end Go.Proofs.Ytmfjhejhbomlpaa
