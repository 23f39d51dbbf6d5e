/- A loop over an iterator that says, of each thing that it hands out, how it lies in memory. The walk of the store's iterator. -/
import Derived.Test.YtmfjhejhbomlpaaDd
import Derived.RangeFuncNested
import Derived.RangeFuncBound
import Derived.RangeFuncCalls
import Derived.RangeFuncLeaves
import Derived.Test.YtmfjhejhbomlpaaSl
import Derived.Shelf.AbstractIn
import Derived.Sort.MapsRangeIn
import Derived.OwnWalkIn
import Derived.TacticsInMore
import Derived.RegionIn
import Derived.LoopNIn
import Derived.LoopIn
import Derived.Shelf.Abstract
import Derived.Maps.OwnIn
set_option linter.unusedVariables false
set_option linter.unusedSimpArgs false
namespace Go.Proofs.Ytmfjhejhbomlpaa
open Go.RowKit

/-- No cells lie at a block. -/
def NC (w : World) (k : Nat) : Prop := ∃ o : Obj, w.heap[k]? = some o ∧ o.isCells = false
theorem NC.noTy {w : World} {k : Nat} (h : NC w k) (t : TypeId) : ¬ Ty w t k := by
  obtain ⟨o, ho, hc⟩ := h
  rintro ⟨cs, fr, e⟩
  rw [ho] at e
  injection e with e
  subst e
  cases hc
theorem NC.ofTy {w : World} {S : Nat → Prop} (h : ∀ k, S k → NC w k) (t : TypeId) : NoTy w S t := fun k hk => (h k hk).noTy t
/-- The blocks that a body may turn: rows of one of two types. -/
def T2 (t1 t2 : TypeId) (w : World) (k : Nat) : Prop := Ty w t1 k ∨ Ty w t2 k
theorem Changed.putObj (W : World) (l : Nat) (o : Obj) : Changed (· = l) W (W.putObj l o) := (Changed.grown (grownBy_putObj' W l o)).mono fun k hk => .inl (by injection hk)
theorem Ty.put {W : World} {l k : Nat} {r r' : Loop} {t : TypeId} (hl : W.heap[l]? = some (.loop r)) (h : Ty (W.putObj l (.loop r')) t k) : Ty W t k := by
  by_cases hk : l = k
  · subst hk
    obtain ⟨cs, fr, h⟩ := h
    rw [World.putObj_heap_same (Array.getElem?_eq_some_iff.1 hl).1] at h
    cases h
  · obtain ⟨cs, fr, h⟩ := h
    rw [World.putObj_heap_other (Ne.symm hk)] at h
    exact ⟨cs, fr, h⟩

section
variable {P : Program} {n : Nat}
theorem wpIn_rangeG {α : Type} {g : Operand} {ps : Array Tmp} {assign body : Code} {Q : Exit → Act → World → Prop} {a : Act} {w : World} {gf : Nat} {lb : Array Value}
    (hg : a.eval g = .func (.func gf) #[] lb) (eg : ∀ args w, (callFunc gf args).run P w = .ok (.enter gf args) w)
    (t1 t2 : TypeId) (encs : α → Array Value) (hps : ∀ x, (encs x).size = ps.size) (G : α → World → Prop) (I S : List α → World → Prop) (K0 : List α → α → Prop)
    (hI : ∀ pre A A' S, I pre A → Changed S A A' → (∀ k, S k → w.heap.size ≤ k ∧ NC A k) → I pre A')
    (hG : ∀ x A A' S, G x A → Changed S A A' → (∀ k, S k → NC A k) → G x A')
    (hS : ∀ xs A A' T, S xs A → Changed T A A' → (∀ k, T k → NC A k) → S xs A')
    (h0 : I [] w)
    (hiter : ∀ (l : Nat) (J : List α → World → Prop) (W1 : World), Below w.heap.size w W1 → w.heap.size ≤ l →
      (∀ pre A A' S, J pre A → Changed S A A' → (∀ k, S k → W1.heap.size ≤ k ∧ NC A k) → J pre A') →
      (∀ pre A, J pre A → ∃ r, A.heap[l]? = some (.loop r)) →
      (∀ pre x A, K0 pre x → J pre A → G x A → YieldAt Fence.wide (n - 1 - 1) P l (encs x) A fun e A' => e = .returned (.bool true) ∧ J (pre ++ [x]) A' ∧ Changed (fun k => T2 t1 t2 A k ∨ k = l) A A') →
      J [] W1 → CallsIn Fence.wide (n - 1) P gf (#[.func (.yield l) #[] #[]] ++ lb) W1 fun e A => (∃ v, e = .returned v) ∧ ∃ xs, S xs A ∧ J xs A)
    (a₁ : α → Act)
    (hassign : ∀ (l : Nat) (x : α) (W : World) (K : Act → World → Prop), K (a₁ x) W →
      assign.wpIn (Fence.wide.inRound l) (n - 1 - 1) P (Exit.then K (fun _ _ _ => False)) { tmps := (ps.zip (encs x)).foldl (fun t (p, v) => t.setIfInBounds p v) a.tmps, defers := [] } W)
    (hbody : ∀ (l : Nat) (pre : List α) (x : α) (W : World), K0 pre x → I pre W → G x W →
      body.wpIn (Fence.wide.inRound l) (n - 1 - 1) P (fun e _ W' => e = .normal ∧ Changed (T2 t1 t2 W) W W' ∧ I (pre ++ [x]) W') (a₁ x) W)
    (hdone : ∀ (D : Nat) (xs : List α) (W : World), w.heap.size ≤ D → S xs W → I xs W → W.heap[D]? = some (.deferred (some [])) → Q .normal { a with defers := { target := .collected D, args := #[] } :: a.defers } W) :
    (Code.rangeFunc g ps assign body).wpIn Fence.wide n P Q a w := by
  refine wpIn_rangeFunc fun fn hfn => ?_
  obtain ⟨mk, hmk⟩ : ∃ mk : LoopState → Option Code → Loop, mk = fun st pe => { state := st, pending := pe, fn := fn, tmps := a.tmps, params := ps, assign := assign, body := body, defers := w.heap.size } := ⟨_, rfl⟩
  obtain ⟨W1, hW1⟩ : ∃ W1, (w.alloc (.deferred (some []))).alloc (.loop (mk .ready none)) = W1 := ⟨_, rfl⟩
  have hb1 : Below w.heap.size w W1 := by rw [← hW1]; exact ((Below.refl _ w).alloc (Nat.le_refl _) _).alloc (by simp) _
  have hl1 : W1.heap[w.heap.size + 1]? = some (.loop (mk .ready none)) := by
    have := World.alloc_heap_new (w.alloc (.deferred (some []))) (.loop (mk .ready none))
    rw [World.size_alloc] at this
    rw [← hW1]
    exact this
  have hd1 : W1.heap[w.heap.size]? = some (.deferred (some [])) := by
    rw [← hW1, Below.heap_alloc _ _ _ (by simp)]
    exact World.alloc_heap_new w _
  have hsz1 : W1.heap.size = w.heap.size + 2 := by rw [← hW1]; simp
  have hI1 : I [] W1 := hI [] w W1 (fun _ => False) h0 (Changed.of_below hb1) (fun _ h => h.elim)
  refine ⟨w.heap.size + 1, [{ target := .collected w.heap.size, args := #[] }], W1, { target := .fn (.func gf) lb, args := #[.func (.yield (w.heap.size + 1)) #[] #[]] }, W1, gf, #[.func (.yield (w.heap.size + 1)) #[] #[]] ++ lb, W1, ?_, ?_, fun _ _ => trivial, ?_, fun h => ?_, ?_⟩
  · show (Instr.enterLoop fn a.tmps ps assign body none).run P w = _
    rw [run_enterLoop_outer, ← hW1, hmk]
  · simp only [resolve, hg]
    simp [go_sem]
  · simp [invoke, go_sem, eg]
  · simp [Fence.wide] at h
  · have other : ∀ {A A' : World} {T : Nat → Prop} {k : Nat} {o : Obj}, Changed T A A' → A.heap[k]? = some o → ¬ T k → A'.heap[k]? = some o := fun hc ho hT => (hc.block _ (Array.getElem?_eq_some_iff.1 ho).1 hT).trans ho
    refine (hiter (w.heap.size + 1) (fun pre A => I pre A ∧ A.heap[w.heap.size + 1]? = some (.loop (mk .ready none)) ∧ A.heap[w.heap.size]? = some (.deferred (some []))) W1 hb1 (by omega) ?_ (fun pre A h => ⟨_, h.2.1⟩) ?_ ⟨hI1, hl1, hd1⟩).mono ?_
    · rintro pre A A' T ⟨h1, h2, h3⟩ hc hT
      exact ⟨hI _ _ _ _ h1 hc fun k hk => ⟨by have := (hT k hk).1; omega, (hT k hk).2⟩, other hc h2 (fun hk => by have := (hT _ hk).1; omega), other hc h3 (fun hk => by have := (hT _ hk).1; omega)⟩
    · rintro pre x A hk0 ⟨h1, h2, h3⟩ hx
      have hlt := (Array.getElem?_eq_some_iff.1 h2).1
      have hy := run_yield (P := P) (args := encs x) h2 (by rw [hmk]; exact hps x)
      rw [hmk] at hy
      refine ⟨fn, _, assign, body, hy, roundIn_of_wpIn hfn (hassign _ x A _ ⟨_, run_beginRound h2 (by rw [hmk]), ?_⟩)⟩
      have nc : NC A (w.heap.size + 1) := ⟨_, h2, rfl⟩
      obtain ⟨A1, hA1⟩ : ∃ A1, A.putObj (w.heap.size + 1) (.loop { mk .ready none with state := .busy }) = A1 := ⟨_, rfl⟩
      rw [hA1]
      have hc1 : Changed (· = w.heap.size + 1) A A1 := by rw [← hA1]; exact Changed.putObj _ _ _
      have hl2 : A1.heap[w.heap.size + 1]? = some (.loop { mk .ready none with state := .busy }) := by rw [← hA1]; exact World.putObj_heap_same hlt
      have hd2 : A1.heap[w.heap.size]? = some (.deferred (some [])) := other hc1 h3 (by omega)
      have hi2 : I pre A1 := hI _ _ _ _ h1 hc1 fun k hk => by subst hk; exact ⟨by omega, nc⟩
      have hg2 : G x A1 := hG _ _ _ _ hx hc1 fun k hk => by subst hk; exact nc
      refine wpIn_mono (hbody _ pre x A1 hk0 hi2 hg2) ?_
      rintro e a3 A2 ⟨rfl, hc2, hi3⟩
      have nc2 : ∀ k, T2 t1 t2 A1 k → ¬ NC A1 k := fun k hk h => by
        rcases hk with hk | hk
        · exact h.noTy _ hk
        · exact h.noTy _ hk
      have hl3 : A2.heap[w.heap.size + 1]? = some (.loop { mk .ready none with state := .busy }) := other hc2 hl2 fun hk => nc2 _ hk ⟨_, hl2, rfl⟩
      have hd3 : A2.heap[w.heap.size]? = some (.deferred (some [])) := other hc2 hd2 fun hk => nc2 _ hk ⟨_, hd2, rfl⟩
      have hr := run_endRound (P := P) none hl3
      have hc3 : Changed (· = w.heap.size + 1) A2 (A2.putObj (w.heap.size + 1) (.loop { mk .ready none with state := .ready, pending := none })) := Changed.putObj _ _ _
      refine ⟨_, _, hr, rfl, ⟨hI _ _ _ _ hi3 hc3 fun k hk => by subst hk; exact ⟨by omega, _, hl3, rfl⟩, ?_, other hc3 hd3 (by omega)⟩, ?_⟩
      · rw [hmk]
        rw [hmk] at hl3
        exact World.putObj_heap_same (Array.getElem?_eq_some_iff.1 hl3).1
      · refine ((hc1.mono (T := fun k => T2 t1 t2 A k ∨ k = w.heap.size + 1) fun k hk => .inl (.inr hk)).trans hc2 fun k hk => ?_).trans hc3 fun k hk => .inl (.inr hk)
        rw [← hA1] at hk
        rcases hk with hk | hk
        · exact .inl (.inl (.inl (Ty.put h2 hk)))
        · exact .inl (.inl (.inr (Ty.put h2 hk)))
    · rintro e A ⟨⟨v, rfl⟩, xs, hs, hi, hl, hd⟩
      have hr := run_endLoop (P := P) hl (by rw [hmk]; simp)
      have hc := Changed.putObj A (w.heap.size + 1) (.loop { mk .ready none with state := .exhausted })
      have nc : NC A (w.heap.size + 1) := ⟨_, hl, rfl⟩
      refine ⟨none, A.putObj (w.heap.size + 1) (.loop { mk .ready none with state := .exhausted }), by rw [hr, hmk], ?_⟩
      exact hdone _ xs _ (Nat.le_refl _) (hS _ _ _ _ hs hc fun k hk => by subst hk; exact nc) (hI _ _ _ _ hi hc fun k hk => by subst hk; exact ⟨by omega, nc⟩) (other hc hd (by omega))
end
end Go.Proofs.Ytmfjhejhbomlpaa
set_option linter.unusedVariables false
set_option linter.unusedSimpArgs false
namespace Go.Proofs.Ytmfjhejhbomlpaa
open Go.RowKit Go.Shelf

/-- A pair on its way: its key, where its value lies, its value. -/
structure It where
  key : ByteArray
  v : Value
  val : List UInt8
def encIt (x : It) : Array Value := #[.string x.key, x.v]
def GIt (B0 : Nat) (x : It) (w : World) : Prop := OwnB w B0 5 x.v x.val
/-- All pairs of a list have come, each once. -/
def SIt (B0 : Nat) (L : List Pr) (xs : List It) (w : World) : Prop :=
  (∀ x ∈ xs, GIt B0 x w ∧ getL L x.key = some x.val) ∧ (xs.map (·.key)).Nodup ∧ ∀ k, getL L k ≠ none → ∃ x ∈ xs, x.key = k
theorem GIt.changed {B0 : Nat} {x : It} {w w' : World} {S : Nat → Prop} (h : GIt B0 x w) (hc : Changed S w w') (hn : NoTy w S 5) : GIt B0 x w' := OwnB.changed h hc hn
theorem ranges_changed {w w' : World} {S : Nat → Prop} {b r n cnt : Nat} {D : DataW Value} {left : Lit → Bool} (h : w.ranges Try.prog 9 rawE b r n D left cnt) (hc : Changed S w w') (hb : ¬ S b) (hr : ¬ S r) : w'.ranges Try.prog 9 rawE b r n D left cnt := by
  have h1 := h.owns.lt
  have h2 := h.lt
  obtain ⟨es, clock, since, seen, c0, hb', F, hs, hD, hr', rest⟩ := h
  exact ⟨es, clock, since, seen, c0, (hc.block b h1 hb).trans hb', F, hs, hD, (hc.block r h2 hr).trans hr', rest⟩
theorem ranges_nc {w : World} {b r n cnt : Nat} {D : DataW Value} {left : Lit → Bool} (h : w.ranges Try.prog 9 rawE b r n D left cnt) : NC w b ∧ NC w r := by
  obtain ⟨es, clock, since, seen, c0, hb', F, hs, hD, hr', rest⟩ := h
  exact ⟨⟨_, hb', rfl⟩, ⟨_, hr', rfl⟩⟩
theorem ranges_loop {w : World} {b r n cnt l : Nat} {D : DataW Value} {left : Lit → Bool} {lp : Loop} (h : w.ranges Try.prog 9 rawE b r n D left cnt) (hl : w.heap[l]? = some (.loop lp)) : b ≠ l ∧ r ≠ l := by
  obtain ⟨es, clock, since, seen, c0, hb', F, hs, hD, hr', rest⟩ := h
  refine ⟨fun e => ?_, fun e => ?_⟩
  · rw [e, hl] at hb'; cases hb'
  · rw [e, hl] at hr'; cases hr'
/-- What an iterator holds between two rounds. -/
structure IterB (B B0 N sb bl bm nn r : Nat) (q u : Int) (L : List Pr) (wr : World) (left : Lit → Bool) (cnt : Nat) (ps : List It) : Prop where
  rng : ∃ D, wr.ranges Try.prog 9 rawE bm r nn D left cnt ∧ ∀ key, AtV D wr B key (getL L key)
  box : Blk wr N 29 #[.pointer (some ⟨sb, 0, none⟩)]
  head : Blk wr sb 67 (stC bl bm q u)
  own : ∀ x ∈ ps, GIt B0 x wr
  low : B0 ≤ wr.heap.size
/-- What has come, what is left. -/
structure Coll (L : List Pr) (left : Lit → Bool) (ps : List It) : Prop where
  val : ∀ x ∈ ps, getL L x.key = some x.val
  nodup : (ps.map (·.key)).Nodup
  all : ∀ k, getL L k ≠ none → left (kl k) = true ∨ ∃ x ∈ ps, x.key = k
  not_ : ∀ x ∈ ps, left (kl x.key) = false
theorem kl_self (k : ByteArray) : (kl k).sameKey (kl k) = true := WideAt.sameKey_self (kl_lit k)
theorem kl_same {a b : ByteArray} (h : (kl a).sameKey (kl b) = true) : a = b := kl_inj (WideAt.sameKey_eq h)
theorem nodup_len {α : Type} [DecidableEq α] : ∀ (a b : List α), a.Nodup → (∀ x ∈ a, x ∈ b) → a.length ≤ b.length
  | [], _, _, _ => Nat.zero_le _
  | h :: t, b, hn, hs => by
    have hb := hs h (by simp)
    have hn' := List.nodup_cons.1 hn
    have := nodup_len t (b.erase h) hn'.2 fun y hy => (List.mem_erase_of_ne (fun e => hn'.1 (by subst e; exact hy))).2 (hs y (by simp [hy]))
    rw [List.length_erase_of_mem hb] at this
    have := List.length_pos_of_mem hb
    simp only [List.length_cons]
    omega
theorem mem_keys {L : List Pr} {k : ByteArray} {v : List UInt8} (h : getL L k = some v) : k ∈ L.map Prod.fst := List.mem_map.2 ⟨(k, v), getL_mem h, rfl⟩
theorem Coll.len {L : List Pr} {left : Lit → Bool} {ps : List It} (h : Coll L left ps) (x : It) (hl : left (kl x.key) = true) (hv : getL L x.key = some x.val) : ps.length < L.length := by
  have := nodup_len (ps.map (·.key) ++ [x.key]) (L.map Prod.fst) (List.nodup_append.2 ⟨h.nodup, by simp, fun a ha b hb e => by
    obtain ⟨y, hy, rfl⟩ := List.mem_map.1 ha
    have hb' : b = x.key := by simpa using hb
    have := h.not_ y hy
    rw [e, hb', hl] at this
    cases this⟩) (fun k hk => by
    rcases List.mem_append.1 hk with hk | hk
    · obtain ⟨y, hy, rfl⟩ := List.mem_map.1 hk
      exact mem_keys (h.val y hy)
    · rw [List.mem_singleton.1 hk]; exact mem_keys hv)
  simpa [Nat.lt_iff_add_one_le] using this
theorem Coll.step {L : List Pr} {left : Lit → Bool} {ps : List It} (h : Coll L left ps) (x : It) (hl : left (kl x.key) = true) (hv : getL L x.key = some x.val) : Coll L (fun z => left z && !z.sameKey (kl x.key)) (ps ++ [x]) where
  val y hy := by
    rcases List.mem_append.1 hy with hy | hy
    · exact h.val y hy
    · rw [List.mem_singleton.1 hy]; exact hv
  nodup := by
    rw [List.map_append]
    refine List.nodup_append.2 ⟨h.nodup, by simp, fun a ha b hb e => ?_⟩
    obtain ⟨y, hy, rfl⟩ := List.mem_map.1 ha
    have hb' : b = x.key := by simpa using hb
    have := h.not_ y hy
    rw [e, hb', hl] at this
    cases this
  all k hk := by
    rcases h.all k hk with h1 | ⟨y, hy, e⟩
    · by_cases hkx : k = x.key
      · exact .inr ⟨x, by simp, hkx.symm⟩
      · left
        simp only [h1, Bool.true_and, Bool.not_eq_true']
        cases hs : (kl k).sameKey (kl x.key)
        · rfl
        · exact absurd (kl_same hs) hkx
    · exact .inr ⟨y, by simp [hy], e⟩
  not_ y hy := by
    rcases List.mem_append.1 hy with hy | hy
    · simp only [h.not_ y hy, Bool.false_and]
    · rw [List.mem_singleton.1 hy]
      simp only [kl_self, Bool.not_true, Bool.and_false]
section
variable {B B0 N sb bl bm nn r : Nat} {q u : Int} {L : List Pr} {wr w' : World} {left : Lit → Bool} {cnt : Nat} {ps : List It}
theorem IterB.changed {S : Nat → Prop} (h : IterB B B0 N sb bl bm nn r q u L wr left cnt ps) (hc : Changed S wr w') (h1 : NoTy wr S 5) (h2 : NoTy wr S 29) (h3 : NoTy wr S 67) (hb : ¬ S bm) (hr : ¬ S r) : IterB B B0 N sb bl bm nn r q u L w' left cnt ps := by
  obtain ⟨D, hD, hat⟩ := h.rng
  exact ⟨⟨D, ranges_changed hD hc hb hr, fun key => (hat key).changed hc h1⟩, h.box.changed hc h2, h.head.changed hc h3, fun x hx => (h.own x hx).changed hc h1, Nat.le_trans h.low hc.size⟩
end

theorem key_str {key : Value} {k : Lit} (h : keyOf Try.prog 9 key = some k) : ∃ s : ByteArray, key = .string s ∧ k = kl s := by
  cases key <;> simp [keyOf, Try.underlying9, mapKey] at h
  exact ⟨_, rfl, h.2.symm⟩

attribute [local go_sem] Oper.semAt_some

set_option maxRecDepth 100000 in
set_option maxHeartbeats 4000000 in
theorem iter_calls (n l : Nat) {B N sb bl bm nn : Nat} {q u : Int} {L : List Pr} (J : List It → World → Prop) (W : World) (t1 t2 : TypeId) (ht1 : t1 = 39) (ht2 : t2 = 43)
    (hbox : Blk W N 29 #[.pointer (some ⟨sb, 0, none⟩)]) (hh : Blk W sb 67 (stC bl bm q u)) (hm : MapB W B bm nn L) (hL : ∀ k v, getL L k = some v → v.length ≤ 140737488351232)
    (hJ : ∀ pre A A' S, J pre A → Changed S A A' → (∀ k, S k → W.heap.size ≤ k ∧ NC A k) → J pre A') (hJl : ∀ pre A, J pre A → ∃ r, A.heap[l]? = some (.loop r))
    (hY : ∀ (pre : List It) x A, pre.length < L.length → J pre A → GIt W.heap.size x A → YieldAt Fence.wide (n - 1) Try.prog l (encIt x) A fun e A' => e = .returned (.bool true) ∧ J (pre ++ [x]) A' ∧ Changed (fun k => T2 t1 t2 A k ∨ k = l) A A') (h0 : J [] W) :
    CallsIn Fence.wide n Try.prog 61 #[.func (.yield l) #[] #[], .pointer (some ⟨N, 0, none⟩)] W fun e A => (∃ v, e = .returned v) ∧ ∃ xs, SIt W.heap.size L xs A ∧ J xs A := by
  obtain ⟨D, hown, hmap, hat⟩ := hm
  have hN := hbox.lt
  have hsb := hh.lt
  have hbm := hown.lt
  have cb : W.cell? ⟨N, 0, none⟩ = some (.pointer (some ⟨sb, 0, none⟩)) := hbox.cell 0
  have c3 : W.cell? ⟨sb, 3, none⟩ = some (.map (some bm)) := hh.cell 3
  have HAT := Lib.hid hat
  have HJ := Lib.hid hJ
  have HJL := Lib.hid hJl
  have HY := Lib.hid hY
  have HL := Lib.hid hL
  clear hat hJ hJl hY hL
  refine callsIn_of_wp Try.func61 rfl trivial ?_ rfl
  simp only [Try.ntmps61, List.size_toArray, List.length_cons, List.length_nil, Nat.reduceAdd, Nat.reduceSub, Array.replicate_succ, Array.replicate_zero, List.push_toArray, List.append_toArray, List.nil_append, List.cons_append]
  gi_wp2_with (first
    | (gi_at_range; refine wpListIn_range_own _ rfl _ 65 rfl 9 41 keyed9 Try.underlying65 rawE bm nn D rfl hown ?_; intro w0 hrg0 hg0 hs0)
    | gi_in)
  go_frame
  have hc0 : Changed (fun _ => False) W w0 := (Changed.grown hg0).mono (fun k hk => by cases hk)
  have hit0 : IterB B W.heap.size N sb bl bm nn W.heap.size q u L w0 (Maps.has D) (Maps.size D) [] := ⟨⟨D, hrg0, fun key => (HAT.out key).changed hc0 (NoTy.none _ _)⟩, hbox.frame hc0 (fun h => h), hh.frame hc0 (fun h => h), by simp, by omega⟩
  have hcl0 : Coll L (Maps.has D) [] := ⟨by simp, List.nodup_nil, fun k hk => .inl (by
    have hk2 := HAT.out k
    cases hg : getL L k with
    | none => exact absurd hg hk
    | some x =>
      rw [hg] at hk2
      obtain ⟨v, hv, _⟩ := hk2
      cases hh : Maps.has D (kl k)
      · rw [Maps.atKey_of_not_has hh] at hv
        cases hv
      · rfl), by simp⟩
  have HC0 := Lib.hid hcl0
  clear hcl0
  have hJ0 : J [] w0 := HJ.out [] W w0 _ h0 hc0 (fun _ h => h.elim)
  clear hrg0 hg0 hs0 hc0 cb c3
  gi_loopw [3, 4] (fun _ _ wr => ∃ (left : Lit → Bool) (cnt : Nat) (ps : List It), IterB B W.heap.size N sb bl bm nn W.heap.size q u L wr left cnt ps ∧ Hid (Coll L left ps) ∧ J ps wr) (fun _ _ wr => wr.rangeLeft bm W.heap.size)
  case atStart => exact ⟨_, _, [], hit0, HC0, hJ0⟩
  case round =>
    obtain ⟨left, cnt, ps, hit, HC, hj⟩ := hrel
    clear hit0 hJ0
    obtain ⟨Dr, hrg, hatr⟩ := hit.rng
    have HATR := Lib.hid hatr
    clear hatr
    have HM0 := Lib.hid hrg.left_eq
    gi_wp2_with (first
      | (gi_at_next; refine wpListIn_next_ranges _ rfl _ rfl 9 keyed9 rawE Value.string (fun v : Value => v) (fun key k hk => by obtain ⟨x, hx, _⟩ := key_str hk; exact ⟨x, hx⟩) (fun v y _ => ⟨v, rfl⟩) bm W.heap.size nn _ _ _ rfl hrg ?_ ?_)
      | gi_in)
    · intro hc0 hl0
      have HSI : Hid (SIt W.heap.size L ps wr) := Lib.hid ⟨fun x hx => ⟨hit.own x hx, HC.out.val x hx⟩, HC.out.nodup, fun k hk => by
        rcases HC.out.all k hk with h | h
        · rw [hl0] at h; cases h
        · exact h⟩
      clear hl0
      gi_wp2
      go_end0
      exact ⟨⟨_, rfl⟩, ps, HSI.out, hj⟩
    · intro x c k0 yd yp w2 cnt2 hkey hlk hv hat hrg2 hlt hg2 hs2 hen
      obtain ⟨x', ex, rfl⟩ := key_str hkey
      injection ex with ex
      subst ex
      have hy : yd = DataW.held c := by
        have := Option.some.inj hv
        injection this with h1 h2
        exact h1.symm
      subst hy
      have hatk := HATR.out x
      obtain ⟨val, hgv⟩ : ∃ val, getL L x = some val := by
        cases hg : getL L x with
        | some val => exact ⟨val, rfl⟩
        | none =>
          rw [hg] at hatk
          have : Dr.atKey (kl x) .nil = DataW.nil := hatk
          rw [hat] at this
          cases this
      rw [hgv] at hatk
      obtain ⟨v0, hv0, ho⟩ := hatk
      rw [hat] at hv0
      injection hv0 with hv0
      subst hv0
      have hc2 : Changed (· = W.heap.size) wr w2 := (Changed.grown hg2).mono fun k hk => .inl (by injection hk)
      obtain ⟨hnb, hnr⟩ := ranges_nc hrg
      have hnc : ∀ k, (· = W.heap.size) k → NC wr k := fun k hk => by subst hk; exact hnr
      have hit2 : IterB B W.heap.size N sb bl bm nn W.heap.size q u L w2 (fun z => left z && !z.sameKey (kl x)) cnt2 ps :=
        ⟨⟨Dr, hrg2, fun key => (HATR.out key).changed hc2 (NC.ofTy hnc _)⟩, hit.box.changed hc2 (NC.ofTy hnc _), hit.head.changed hc2 (NC.ofTy hnc _), fun y hy => (hit.own y hy).changed hc2 (NC.ofTy hnc _), by rw [hs2]; exact hit.low⟩
      have hj2 : J ps w2 := HJ.out ps wr w2 _ hj hc2 (fun k hk => ⟨by subst hk; exact Nat.le_refl _, hnc k hk⟩)
      have hrb : RB w2 c val := OwnB.rb (OwnB.changed ho hc2 (NC.ofTy hnc _)) (HL.out x val hgv)
      have HCS := Lib.hid (fun v8 => HC.out.step ⟨x, v8, val⟩ hlk hgv)
      have hlen := HC.out.len ⟨x, c, val⟩ hlk hgv
      have hlow2 := hit2.low
      clear hnc hnb hnr hat hc2 ho hit hrg hv hkey hj hg2 hs2 hgv hlk HC
      gi_wp2_with fail
      refine ⟨trivial, (fun h => (by cases h)), ?_⟩
      refine (callsIn_wide.2 (clone_calls _ _ _ hrb)).mono ?_
      rintro e w8 ⟨v8, rfl, hown8, hb8⟩
      obtain ⟨A8, c8, hv8, hcc8⟩ := Own.slice hown8
      rw [bs_length] at hv8
      subst hv8
      have hc8 : Changed (fun _ => False) w2 w8 := Changed.of_below hb8
      have hit8 := hit2.changed hc8 (NoTy.none _ _) (NoTy.none _ _) (NoTy.none _ _) (fun h => h) (fun h => h)
      have hj8 : J ps w8 := HJ.out ps w2 w8 _ hj2 hc8 (fun k hk => hk.elim)
      have hg8 : GIt W.heap.size ⟨x, .slice A8 val.length c8, val⟩ w8 := Own.low hown8 hlow2
      obtain ⟨lp, hlp⟩ := HJL.out ps w8 hj8
      obtain ⟨fn, tmps, assign, body, hy, hR⟩ := HY.out ps ⟨x, .slice A8 val.length c8, val⟩ w8 hlen hj8 hg8
      dsimp only [encIt] at hy
      clear hit2 hj2 hown8 hb8 hc8 hrb hrg2 hen
      gi_wp2
      refine ⟨(fun h => (by cases h)), hR.mono ?_⟩
      rintro e w9 ⟨rfl, hj9, hc9⟩
      have hno : ∀ t : TypeId, 39 ≠ t → 43 ≠ t → NoTy w8 (fun k => T2 t1 t2 w8 k ∨ k = l) t := fun t g1 g2 k hk ht => by
        rcases hk with (hk | hk) | rfl
        · rw [ht1] at hk; exact g1 (hk.uniq ht)
        · rw [ht2] at hk; exact g2 (hk.uniq ht)
        · exact (NC.noTy ⟨_, hlp, rfl⟩ t) ht
      obtain ⟨D8, hrg8, _⟩ := hit8.rng
      have hnt : ∀ k, NC w8 k → k ≠ l → ¬ (T2 t1 t2 w8 k ∨ k = l) := fun k hk hkl h => by
        rcases h with (h | h) | h
        · exact hk.noTy _ h
        · exact hk.noTy _ h
        · exact hkl h
      have hit9 := hit8.changed hc9 (hno _ (by decide) (by decide)) (hno _ (by decide) (by decide)) (hno _ (by decide) (by decide)) (hnt _ (ranges_nc hrg8).1 (ranges_loop hrg8 hlp).1) (hnt _ (ranges_nc hrg8).2 (ranges_loop hrg8 hlp).2)
      have hg9 : GIt W.heap.size ⟨x, .slice A8 val.length c8, val⟩ w9 := hg8.changed hc9 (hno _ (by decide) (by decide))
      have hit10 : IterB B W.heap.size N sb bl bm nn W.heap.size q u L w9 (fun z => left z && !z.sameKey (kl x)) cnt2 (ps ++ [⟨x, .slice A8 val.length c8, val⟩]) := ⟨hit9.rng, hit9.box, hit9.head, fun y hy => by
        rcases List.mem_append.1 hy with hy | hy
        · exact hit9.own y hy
        · rw [List.mem_singleton.1 hy]; exact hg9, hit9.low⟩
      have HIT := Lib.hid hit10
      have HC2 := Lib.hid (HCS.out (.slice A8 val.length c8))
      clear hno hnt hrg8 hit9 hit8 hg9 hg8 hc9 hit10 hy hR hlp hj8 HCS
      gi_wp2
      go_roundw
      case rel => exact ⟨_, cnt2, _, HIT.out, HC2, hj9⟩
      case measure =>
        obtain ⟨D9, hrg9, _⟩ := HIT.out.rng
        rw [hrg9.left_eq, HM0.out]
        exact hlt
end Go.Proofs.Ytmfjhejhbomlpaa
