/- The store's pairs in order: the sort. Walk of the store's All. Pairs that can be read; walk of the store's Scan. -/
import Derived.Test.YtmfjhejhbomlpaaTb
import Derived.Test.YtmfjhejhbomlpaaShelf
set_option linter.unusedVariables false
set_option linter.unusedSimpArgs false
namespace Go.Proofs.Ytmfjhejhbomlpaa
open Go.RowKit Go.Shelf

theorem cmp_lt : ∀ a b : List UInt8, decide (Lib.compareBytes a b < 0) = Op.bytesLess a b
  | [], [] => rfl
  | [], _ :: _ => rfl
  | _ :: _, [] => rfl
  | a :: r, b :: t => by
    have ih := cmp_lt r t
    simp only [Lib.compareBytes, Op.bytesLess]
    by_cases h : a < b
    · simp [h]
    · by_cases h2 : b < a
      · have hne : a ≠ b := fun e => by subst e; exact h h2
        simp [h, h2, hne]
      · have he : a = b := by
          have h1 := UInt8.not_lt.1 h
          have h3 := UInt8.not_lt.1 h2
          exact UInt8.le_antisymm h3 h1
        simp [h, h2, he, ih]
/-- A cell in any case. -/
def one (v : Value) : Value := if v.oneCell' then v else .slice none 0 0
theorem one_cell (v : Value) : (one v).oneCell' = true := by
  unfold one
  split
  · assumption
  · rfl
theorem one_self {v : Value} (h : v.oneCell' = true) : one v = v := if_pos h
def itC (x : It) : List Value := [.string x.key, one x.v]
def cfIt (x y : It) : Int := Lib.compareBytes x.key.data.toList y.key.data.toList
instance : Inhabited It := ⟨⟨⟨#[]⟩, .slice none 0 0, []⟩⟩
theorem lt_cf (x y : It) : ltOf cfIt x y = ltK x.key y.key := by
  unfold ltOf cfIt ltK
  rw [cmp_lt, ByteArray.toList_eq, ByteArray.toList_eq]
theorem swo_cf : Sort.SWO (ltOf cfIt) where
  irrefl x := by rw [lt_cf]; exact ltK_irrefl _
  trans x y z h1 h2 := by rw [lt_cf] at *; exact ltK_trans h1 h2
  ntrans x y z h1 h2 := by
    rw [lt_cf] at *
    cases h3 : ltK x.key z.key with
    | false => rfl
    | true =>
      cases h4 : ltK y.key x.key with
      | true => rw [ltK_trans h4 h3] at h2; cases h2
      | false =>
        have := ltK_total h1 h4
        rw [← this, h3] at h2
        cases h2

theorem flatV_get {α : Type} (f : α → List Value) (k : Nat) (hf : ∀ x, (f x).length = k) : ∀ (l : List α) (i j : Nat) (x : α), l[i]? = some x → j < k → (l.flatMap f)[i * k + j]? = (f x)[j]?
  | [], i, j, x, h, _ => by simp at h
  | y :: r, 0, j, x, h, hj => by
    obtain rfl : y = x := by simpa using h
    rw [List.flatMap_cons, Nat.zero_mul, Nat.zero_add, List.getElem?_append_left (by rw [hf]; exact hj)]
  | y :: r, i + 1, j, x, h, hj => by
    have e : (i + 1) * k + j = (f y).length + (i * k + j) := by rw [hf, Nat.add_mul, Nat.one_mul]; omega
    rw [List.flatMap_cons, e, List.getElem?_append_right (by omega), Nat.add_sub_cancel_left]
    exact flatV_get f k hf r i j x (by simpa using h) hj
theorem flatV_len {α : Type} (f : α → List Value) (k : Nat) (hf : ∀ x, (f x).length = k) : ∀ l : List α, (l.flatMap f).length = l.length * k
  | [] => by simp
  | y :: r => by rw [List.flatMap_cons, List.length_append, hf, flatV_len f k hf r, List.length_cons, Nat.add_mul, Nat.one_mul]; omega
theorem flatK_list {α : Type} [Inhabited α] (f : α → List Value) (k : Nat) (hf : ∀ x, (f x).length = k) (d : Array α) : (Sort.flatK f k d).toList = d.toList.flatMap f := by
  refine List.ext_getElem? fun t => ?_
  have hl := flatV_len f k hf d.toList
  rcases Nat.lt_or_ge t (d.size * k) with ht | ht
  · have hk : 0 < k := by
      rcases Nat.eq_zero_or_pos k with h | h
      · subst h; simp at ht
      · exact h
    have hi : t / k < d.size := Nat.div_lt_of_lt_mul (by rwa [Nat.mul_comm])
    have hm := Nat.mod_lt t hk
    have e : t = t / k * k + t % k := by rw [Nat.mul_comm]; exact (Nat.div_add_mod t k).symm
    have h1 : (Sort.flatK f k d).toList[t]? = some ((f d[t / k]!)[t % k]!) := by
      have h2 := Sort.get_flatK f k d t ht
      have h3 : t < (Sort.flatK f k d).size := by rw [Sort.size_flatK]; exact ht
      rw [getElem!_pos _ t h3] at h2
      rw [Array.getElem?_toList, Array.getElem?_eq_getElem h3, h2]
    rw [h1]
    conv => rhs; rw [e]
    rw [flatV_get f k hf d.toList (t / k) (t % k) d[t / k]! (by rw [Array.getElem?_toList, Array.getElem?_eq_getElem hi, getElem!_pos d _ hi]) hm]
    have h4 : t % k < (f d[t / k]!).length := by rw [hf]; exact hm
    rw [List.getElem?_eq_getElem h4, getElem!_pos (f d[t / k]!) (t % k) h4]
  · rw [List.getElem?_eq_none (by rw [Array.length_toList, Sort.size_flatK]; exact ht), List.getElem?_eq_none (by rw [hl]; simpa using ht)]

/-- A row of pairs in memory. -/
def OwnR (w : World) (B : Nat) (v : Value) (xs : List It) : Prop := w.ownsRow B 43 2 v xs.length (xs.flatMap itC)
theorem itC_len (x : It) : (itC x).length = 2 := rfl
theorem itC_one (x : It) : ∀ v ∈ itC x, v.oneCell' = true := by
  intro v hv
  simp only [itC, List.mem_cons, List.not_mem_nil, or_false] at hv
  rcases hv with rfl | rfl
  · rfl
  · exact one_cell _
theorem sort_perm {d d' : Array It} (h : Sort.PermIn 0 d.size d d') : d'.toList.Perm d.toList := by
  have h2 := h.2.2
  rw [← h.1] at h2
  conv at h2 => lhs; rw [Array.extract_size]
  rw [h.1, Array.extract_size] at h2
  exact h2
theorem sort_pair {d : Array It} (h : Sort.SortedIn (ltOf cfIt) 0 d.size d) : d.toList.Pairwise fun x y => ltK y.key x.key = false := by
  refine List.pairwise_iff_getElem.2 fun i j hi hj hij => ?_
  have h1 := h i j (Nat.zero_le _) hij (by simpa using hj)
  rw [getElem!_pos d j (by simpa using hj), getElem!_pos d i (by simpa using hi), lt_cf] at h1
  simpa using h1
theorem cmp_calls (x y : It) (W : World) : Calls Try.prog 41 #[.agg (itC x).toArray, .agg (itC y).toArray] W fun e w' => e = .returned (.int .i64 (cfIt x y)) ∧ ∃ q os', w' = Sort.grow (W.drewN q) os' := by
  have hcon := fun W' => Try.strings_Compare x.key y.key W'
  have h1 := one_cell x.v
  have h2 := one_cell y.v
  unfold itC cfIt
  generalize one x.v = a1 at h1 ⊢
  generalize one y.v = a2 at h2 ⊢
  generalize Lib.compareBytes x.key.data.toList y.key.data.toList = r at hcon ⊢
  go_enter Try.func41, Try.ntmps41
  go_wp2_with (go_at_call 42; refine (hcon _).mono ?_; rintro e w' ⟨rfl, rfl⟩)
  go_ret
  exact ⟨rfl, 0, _, by rw [Sort.alloc_eq_grow, Sort.alloc_eq_grow, Sort.grow_grow]; rfl⟩

theorem sort_heap (w : World) (blk n : Nat) (d : Array It) (os : Array Obj) (k : Nat) (hk : k < w.heap.size) (hne : k ≠ blk) : (sortWorldK itC 2 w blk 0 n d os).heap[k]? = w.heap[k]? := by
  unfold sortWorldK Sort.grow Sort.putRowK Sort.putRow Sort.mapBlock
  simp only [Array.getElem?_append, Array.size_modify, Array.getElem?_modify]
  rw [if_pos (by exact hk), if_neg (Ne.symm hne)]
  rfl
theorem sort_blk (w : World) (blk n : Nat) (d : Array It) (os : Array Obj) {cur : Array Value} {e : TypeId} {fr : Nat × Nat} (h : w.heap[blk]? = some (.cells cur e fr)) : (sortWorldK itC 2 w blk 0 n d os).heap[blk]? = some (.cells (Sort.putCells id 0 (Sort.flatK itC 2 d) cur) e fr) := by
  have hk : blk < w.heap.size := (Array.getElem?_eq_some_iff.1 h).1
  unfold sortWorldK Sort.grow Sort.putRowK Sort.putRow Sort.mapBlock
  simp only [Array.getElem?_append, Array.size_modify, Array.getElem?_modify]
  rw [if_pos (by exact hk), if_pos trivial]
  show (w.heap[blk]?).map _ = _
  rw [h]
  rfl
theorem put_take (F cur : Array Value) (h : F.size ≤ cur.size) : (Sort.putCells id 0 F cur).toList.take F.size = F.toList := by
  refine List.ext_getElem? fun t => ?_
  rw [List.getElem?_take]
  split
  · next ht =>
    unfold Sort.putCells
    have h2 : t < cur.size := by omega
    rw [Array.getElem?_toList, Array.getElem?_toList, Array.getElem?_mapIdx, Array.getElem?_eq_getElem h2, Array.getElem?_eq_getElem ht, Option.map_some, if_pos ⟨Nat.zero_le _, by omega⟩, Nat.sub_zero, getElem!_pos F t ht]
    rfl
  · next ht => rw [List.getElem?_eq_none (by rw [Array.length_toList]; omega)]
theorem put_size (F cur : Array Value) : (Sort.putCells id 0 F cur).size = cur.size := by simp [Sort.putCells]

theorem sort_calls {w : World} {B : Nat} {v : Value} {xs : List It} (h : OwnR w B v xs) (hn : xs.length < 4611686018427387904) :
    Calls Try.prog 40 #[v, .func (.func 41) #[] #[]] w fun e w' => e = .returned (.tuple #[]) ∧ ∃ ys : List It, ys.Perm xs ∧ (ys.Pairwise fun x y => ltK y.key x.key = false) ∧ OwnR w' B v ys ∧ Changed (fun k => some k = v.ownBlock) w w' := by
  obtain ⟨hl, ⟨rfl, h0⟩ | ⟨g, cap, cur, rfl, hB, hg, hc, hm, hs, ht⟩⟩ := h
  · have hx : xs = [] := List.length_eq_zero_iff.1 h0
    subst hx
    refine (AnyF.slices_SortFunc_none Try.sortPair none 0 (.func (.func 41) #[] #[]) w).mono ?_
    rintro e w' ⟨rfl, rfl⟩
    exact ⟨rfl, [], List.Perm.refl _, List.Pairwise.nil, ⟨rfl, .inl ⟨rfl, rfl⟩⟩, Changed.refl _ _⟩
  · have hgs : g < w.heap.size := (Array.getElem?_eq_some_iff.1 hg).1
    have hH : Sort.HoldsK itC 2 w g 0 xs.toArray := by
      intro t ht2
      rw [Sort.size_flatK] at ht2
      have hlt : t < xs.length * 2 := by simpa using ht2
      have hcs : t < cur.size := by rw [hs]; omega
      have e1 : cur.toList[t]? = (Sort.flatK itC 2 xs.toArray).toList[t]? := by
        rw [flatK_list itC 2 itC_len, ← ht, List.getElem?_take, if_pos hlt]
      have hfs : t < (Sort.flatK itC 2 xs.toArray).size := by rw [Sort.size_flatK]; simpa using hlt
      rw [Array.getElem?_toList, Array.getElem?_toList, Array.getElem?_eq_getElem hcs, Array.getElem?_eq_getElem hfs] at e1
      have e2 := Option.some.inj e1
      refine ⟨?_, ?_⟩
      · show w.cell? ⟨g, 0 + t, none⟩ = some (id (Sort.flatK itC 2 xs.toArray)[t]!)
        rw [getElem!_pos _ t hfs, id, ← e2]
        simp [World.cell?, hg, hcs]
      · simp [World.frozen?, hg]
    have eg : ∀ args w, (callFunc 41 args).run Try.prog w = .ok (.enter 41 args) w := enters_of Try.func41 (by kernel_rfl) rfl
    have hsz : xs.toArray.size < 4611686018427387904 := by simpa using hn
    have := AnyQ.slices_SortFunc Try.sortPair 2 Try.isAgg43 Try.sizeOf43 itC itC_len itC_one cfIt swo_cf 41 #[] g 0 cap xs.toArray w eg (fun _ _ _ _ x y => cmp_calls x y _) hH hgs hsz
    refine Calls.mono this ?_
    rintro e w' ⟨rfl, d', n, os, hp, hso, rfl⟩
    have hsd : d'.size = xs.length := by simpa using hp.1
    have hso' : Sort.SortedIn (ltOf cfIt) 0 d'.size d' := by rw [hp.1]; exact hso
    refine ⟨rfl, d'.toList, by simpa using sort_perm hp, sort_pair hso', ⟨?_, .inr ⟨g, cap, _, by simp [hsd], hB, sort_blk w g n d' os hg, by simpa [hsd] using hc, hm, by rw [put_size]; exact hs, ?_⟩⟩, ?_⟩
    · rw [← flatK_list itC 2 itC_len, Array.length_toList, Sort.size_flatK]; simp
    · have hF : (Sort.flatK itC 2 d').size = d'.toList.length * 2 := by rw [Sort.size_flatK]; simp
      rw [← hF, put_take (Sort.flatK itC 2 d') cur (by rw [hF, hs, Array.length_toList, hsd]; omega), flatK_list itC 2 itC_len]
    · exact ⟨rfl, rfl, rfl, by simp [sortWorldK, Sort.grow, Sort.putRowK, Sort.putRow, Sort.mapBlock, Sort.ahead], fun k hk hne => sort_heap w g n d' os k hk (fun e => hne (by rw [e]; rfl))⟩
end Go.Proofs.Ytmfjhejhbomlpaa
set_option linter.unusedVariables false
set_option linter.unusedSimpArgs false
namespace Go.Proofs.Ytmfjhejhbomlpaa
open Go.RowKit Go.Shelf

theorem pairs_calls (p : Value) (w : World) (hp : p.oneCell' = true) : Calls Try.prog 39 #[p] w fun e w' => e = .returned (.func (.func 61) #[] #[.pointer (some ⟨w.heap.size, 0, none⟩)]) ∧ w' = w.alloc (.cells #[p] 29) := by
  go_enter Try.func39, Try.ntmps39
  go_wp2
  go_ret
  exact ⟨rfl, rfl⟩

/-- A pair as it is to come out. -/
def It.pr (x : It) : Pr := (x.key, x.val)
/-- Pairs in memory: the row, the values. -/
def PairsAt (w : World) (B : Nat) (v : Value) (L : List Pr) : Prop := ∃ xs : List It, OwnR w B v xs ∧ (∀ x ∈ xs, GIt B x w) ∧ xs.map It.pr = L
theorem bytesL_ge : ∀ l : List Pr, (∀ q ∈ l, 1 ≤ q.1.size) → l.length ≤ bytesL l
  | [], _ => Nat.zero_le _
  | p :: r, h => by
    have h1 := bytesL_ge r fun q hq => h q (by simp [hq])
    have h2 := h p (by simp)
    simp only [List.length_cons, bytesL]
    omega
theorem ltK_pos {a b : ByteArray} (h : ltK a b = true) : 1 ≤ b.size := by
  rcases Nat.eq_zero_or_pos b.size with h0 | h0
  · have e : b.toList = [] := by
      rw [ByteArray.toList_eq]
      exact List.length_eq_zero_iff.1 (by simpa using h0)
    unfold ltK at h
    rw [e] at h
    cases ha : a.toList <;> rw [ha] at h <;> cases h
  · exact h0
theorem sorted_len {l : List Pr} (h : SortedL l) : l.length ≤ bytesL l + 1 := by
  cases l with
  | nil => simp
  | cons p r =>
    have h1 := bytesL_ge r fun q hq => ltK_pos ((sorted_cons.1 h).1 q hq)
    simp only [List.length_cons, bytesL]
    omega

theorem Below.changed {S : Nat → Prop} {w W W' : World} (h : Below w.heap.size w W) (hc : Changed S W W') (hS : ∀ k, S k → w.heap.size ≤ k) : Below w.heap.size w W' :=
  ⟨hc.os.trans h.os, hc.tape.trans h.tape, hc.output.trans h.output, Nat.le_trans h.size hc.size, fun k hk => (hc.block k (Nat.lt_of_lt_of_le hk h.size) (fun hs => absurd (hS k hs) (by omega))).trans (h.block k hk)⟩
theorem pair_info : (Try.prog.info? 43).map (fun i => (i.zero, i.size, i.bytes)) = some (some (.agg #[.string ⟨#[]⟩, .slice none 0 0]), 2, 40) := by kernel_rfl

attribute [local go_sem] Oper.semAt_some

set_option maxRecDepth 100000 in
set_option maxHeartbeats 4000000 in
theorem all_at {w : World} {B sb bd : Nat} {s : SM} {F : Nat → Prop} (h : StoreAt w B sb bd s F) (ho : s.ok) (hmax : s.log.D.now.length ≤ 4096) :
    Calls Try.prog 15 #[.pointer (some ⟨sb, 0, none⟩)] w fun e w' => ∃ u, e = .returned u ∧ PairsAt w' w.heap.size u s.L ∧ Below w.heap.size w w' := by
  obtain ⟨bl, bm, FL, hh, hl, hm, rfl⟩ := h
  have hb1 : bytesL s.L ≤ 271056896 := by
    have := ho.bytes
    have := ho.log.T_len hmax
    omega
  have hlen : s.L.length ≤ 271056897 := by
    have := sorted_len ho.sorted
    omega
  have hval : ∀ k v, getL s.L k = some v → v.length ≤ 140737488351232 := fun k v hv => by
    have h1 := costL_le s.L k
    rw [costL_some hv] at h1
    omega
  have HS := Lib.hid ho.sorted
  clear ho hmax hl
  refine (callsIn_wide (n := 10)).1 ?_
  refine callsIn_of_wp_marks Try.func15 rfl trivial ?_ rfl
  simp only [Try.ntmps15, List.size_toArray, List.length_cons, List.length_nil, Nat.reduceAdd, Nat.reduceSub, Array.replicate_succ, Array.replicate_zero, List.push_toArray, List.append_toArray, List.nil_append, List.cons_append]
  gi_wp2_with fail
  refine ⟨trivial, (callsIn_wide.2 (pairs_calls _ _ rfl)).mono ?_⟩
  rintro e w' ⟨rfl, rfl⟩
  gi_wp2
  obtain ⟨W0, hW0⟩ : ∃ W0, (w.alloc (.cells #[.slice none 0 0] 39)).alloc (.cells #[.pointer (some ⟨sb, 0, none⟩)] 29) = W0 := ⟨_, rfl⟩
  have hbel0 : Below w.heap.size w W0 := by rw [← hW0]; exact ((Below.refl _ w).alloc (Nat.le_refl _) _).alloc (by simp) _
  have hbx0 : Blk W0 w.heap.size 39 #[.slice none 0 0] := by rw [← hW0]; exact (Blk.new w _ _).alloc _
  have hbn0 : Blk W0 (w.heap.size + 1) 29 #[.pointer (some ⟨sb, 0, none⟩)] := by
    have := Blk.new (w.alloc (.cells #[.slice none 0 0] 39)) 29 #[.pointer (some ⟨sb, 0, none⟩)]
    rw [World.size_alloc] at this
    rw [← hW0]; exact this
  have hc0 : Changed (fun _ => False) w W0 := Changed.of_below hbel0
  have hh0 := hh.changed hc0 (NoTy.none _ _)
  have hm0 := hm.below hbel0
  rw [hW0]
  clear hW0 hh hm hc0
  have HM := Lib.hid hm0
  have HV := Lib.hid hval
  clear hm0 hval
  refine wpIn_rangeG (gf := 61) (lb := #[.pointer (some ⟨w.heap.size + 1, 0, none⟩)]) rfl (enters_of Try.func61 (by kernel_rfl) rfl) 39 43 encIt (fun _ => rfl)
    (GIt w.heap.size) (fun pre W => ∃ v, Blk W w.heap.size 39 #[v] ∧ OwnR W w.heap.size v pre ∧ Below w.heap.size w W) (SIt w.heap.size s.L) (fun pre _ => pre.length < s.L.length) ?hI ?hG ?hS ?h0 ?hiter
    (fun x => { tmps := #[.pointer (some ⟨sb, 0, none⟩), undef, .slice none 0 0, .pointer (some ⟨w.heap.size, 0, none⟩), .string x.key, x.v, .pointer (some ⟨sb, 0, none⟩), .bool false, .pointer (some ⟨sb, 0, none⟩), .func (.func 61) #[] #[.pointer (some ⟨w.heap.size + 1, 0, none⟩)], .string x.key, x.v, undef, undef, undef, undef, undef, undef, undef, undef, undef], defers := [] }) ?assign ?body ?done
  case hI =>
    rintro pre A A' S ⟨v, hb, ho, hbel⟩ hc hS
    have hn : ∀ t, NoTy A S t := fun t => NC.ofTy (fun k hk => (hS k hk).2) t
    exact ⟨v, hb.changed hc (hn _), ownsRow_frame ho hc (fun k hk hs => hn _ k hs (ownsRow_ty ho k hk)), Below.changed hbel hc (fun k hk => Nat.le_trans hbel0.size (hS k hk).1)⟩
  case hG => exact fun x A A' S hx hc hS => hx.changed hc (NC.ofTy hS _)
  case hS =>
    rintro xs A A' T ⟨h1, h2, h3⟩ hc hT
    exact ⟨fun x hx => ⟨(h1 x hx).1.changed hc (NC.ofTy hT _), (h1 x hx).2⟩, h2, h3⟩
  case h0 => exact ⟨_, hbx0, World.ownsRow_nil _ _ _ 2, hbel0⟩
  case hiter =>
    intro l J W1 hb1 hl hJ hJl hY hJ0
    have hs1 := hb1.size
    have hs0 := hbel0.size
    refine CallsIn.mono (iter_calls 9 l J W1 39 43 rfl rfl (hbn0.frame (Changed.of_below (S := fun _ => False) hb1) (fun h => h)) (hh0.frame (Changed.of_below (S := fun _ => False) hb1) (fun h => h)) (HM.out.below hb1) HV.out hJ hJl (fun pre x A hk hj hg => hY pre x A hk hj (hg.low (by omega))) hJ0) ?_
    rintro e A ⟨he, xs, ⟨h1, h2, h3⟩, h4⟩
    exact ⟨he, xs, ⟨fun x hx => ⟨(h1 x hx).1.low (by omega), (h1 x hx).2⟩, h2, h3⟩, h4⟩
  case assign =>
    intro l x W K hK
    unfold encIt
    gi_wp2
    exact hK
  case body =>
    rintro l pre x W hk ⟨v, hbx, hown, hbel⟩ hG
    obtain ⟨A, c, hv, _⟩ := Own.slice hG
    have h1 : x.v.oneCell' = true := by rw [hv]; rfl
    have hi : itC x = [.string x.key, x.v] := by unfold itC; rw [one_self h1]
    have cb : W.cell? ⟨w.heap.size, 0, none⟩ = some v := hbx.cell 0
    have hs1 := hbel.size
    obtain ⟨i0, hi0, hz0, hz1, hz2⟩ := info_parts pair_info
    have hne : v.ownBlock ≠ some w.heap.size := own_blk_ne hown hbx (by decide)
    have HG := Lib.hid hG
    have HI := Lib.hid hi
    clear hG hi
    rw [hv] at h1 HI
    generalize (bs x.val).length = nv at hv h1 HI
    generalize x.v = y at hv ⊢
    subst hv
    gi_wp2_with (gi_at_builtin; go_loud (refine wpListIn_append_own_at _ rfl (.tmp 12) (.tmp 16) 39 rfl w.heap.size 43 i0 _ 2 40 Try.underlying39 hi0 hz0 hz1 hz2 rfl (by omega) v pre.length (pre.flatMap itC) rfl (World.ownsRow.alloc hown _) ⟨W.heap.size, 0, none⟩ 1 1 [.string x.key, .slice A nv c] rfl rfl (World.news_of_block (cs := #[.string x.key, .slice A nv c]) (t := 43) (fr := (0, 0)) (heap_alloc_new W _)) (by simp [h1]; rfl) (by simp only [maxLen]; omega) (by omega) (by simp; omega) ?_; intro v1 w1 hown1 hg1 _ hat1; obtain ⟨A1, c1, hv1, _⟩ := ownsRow_slice hown1; subst hv1; have cb1 : w1.cell? ⟨w.heap.size, 0, none⟩ = some v := (Blk.grown (Blk.alloc hbx _) hg1 (Ne.symm hne)).cell 0; have fb1 : w1.frozen? ⟨w.heap.size, 0, none⟩ = false := (Blk.grown (Blk.alloc hbx _) hg1 (Ne.symm hne)).frozen 0))
    have hbx1 : Blk w1 w.heap.size 39 #[v] := Blk.grown (Blk.alloc hbx _) hg1 (Ne.symm hne)
    have hc1 : Changed (T2 39 43 W) W w1 := ((Changed.alloc W _).trans (Changed.grown hg1) (fun k hk => .inl hk)).mono fun k hk => .inl (.inr (ownsRow_ty hown k hk.symm))
    have hc2 : Changed (T2 39 43 W) W (w1.setCell ⟨w.heap.size, 0, none⟩ (.slice A1 (pre.length + 1) c1)) := hc1.trans (Changed.setCell (S := fun k => k = w.heap.size) w1 _ _ rfl) (fun k hk => .inl (.inl (hk ▸ hbx.ty)))
    have hne1 : (Value.slice A1 (pre.length + 1) c1).ownBlock ≠ some w.heap.size := own_blk_ne hown1 hbx1 (by decide)
    refine ⟨hc2, (.slice A1 (pre.length + 1) c1), hbx1.set_ 0 (.slice A1 (pre.length + 1) c1), ?_, Below.changed (Below.changed (Below.changed hbel (Changed.alloc (S := fun _ => False) W _) (fun _ h => h.elim)) (Changed.grown hg1) (fun k hk => (World.ownsRow.lt hown k hk.symm).1)) (Changed.setCell (S := fun k => k = w.heap.size) w1 _ _ rfl) (fun k hk => by omega)⟩
    unfold OwnR
    rw [List.length_append, List.length_singleton, List.flatMap_append, List.flatMap_singleton, HI.out]
    exact ownsRow_frame hown1 (Changed.setCell (S := fun k => k = w.heap.size) w1 _ _ rfl) (fun k hk e => hne1 (by rw [hk, e]))
  case done =>
    rintro D xs W hD ⟨hs1, hs2, hs3⟩ ⟨v, hbx, hown, hbel⟩ hd
    have cb : W.cell? ⟨w.heap.size, 0, none⟩ = some v := hbx.cell 0
    have hxl : xs.length ≤ s.L.length := by
      have := nodup_len (xs.map (·.key)) (s.L.map Prod.fst) hs2 fun k hk => by
        obtain ⟨y, hy, rfl⟩ := List.mem_map.1 hk
        exact mem_keys (hs1 y hy).2
      simpa using this
    have H1 := Lib.hid hs1
    have H2 := Lib.hid hs2
    have H3 := Lib.hid hs3
    clear hs1 hs2 hs3
    gi_wp2_with fail
    refine ⟨trivial, (callsIn_wide.2 (sort_calls hown (by omega))).mono ?_⟩
    rintro e w2 ⟨rfl, ys, hp, hso, hown2, hc2⟩
    have hne : v.ownBlock ≠ some w.heap.size := own_blk_ne hown hbx (by decide)
    have hbx2 : Blk w2 w.heap.size 39 #[v] := hbx.frame hc2 (fun h => hne h.symm)
    have cb2 : w2.cell? ⟨w.heap.size, 0, none⟩ = some v := hbx2.cell 0
    have hd2 : w2.heap[D]? = some (.deferred (some [])) := (hc2.block D (Array.getElem?_eq_some_iff.1 hd).1 (fun h => by
      obtain ⟨cs, fr, h4⟩ := ownsRow_ty hown D h.symm
      rw [hd] at h4
      cases h4)).trans hd
    have hv2 : ∀ k, some k = v.ownBlock → w.heap.size ≤ k := fun k hk => (World.ownsRow.lt hown k hk.symm).1
    have hbel2 := Below.changed hbel hc2 hv2
    gi_wp2
    refine ⟨by simp, .inl ⟨_, _, rfl, run_takeDeferred hd2, ?_⟩⟩
    have hcd := Changed.putObj w2 D (.deferred none)
    have hnc : ∀ k, (· = D) k → NC w2 k := fun k hk => by subst hk; exact ⟨_, hd2, rfl⟩
    have hno2 : NoTy W (fun k => some k = v.ownBlock) 5 := fun k hk ht => absurd ((ownsRow_ty hown k hk.symm).uniq ht) (by decide)
    refine ⟨_, results_tmp rfl _ _ _, v, rfl, ⟨ys, ownsRow_frame hown2 hcd (fun k hk e => ((hnc k e).noTy _) (ownsRow_ty hown2 k hk)), fun y hy => ((H1.out y (hp.mem_iff.1 hy)).1.changed hc2 hno2).changed hcd (NC.ofTy hnc _), ?_⟩, Below.changed hbel2 hcd (fun k hk => ?_)⟩
    · have hnd : (ys.map (·.key)).Nodup := ((hp.map (·.key)).nodup_iff).2 H2.out
      have hsorted : SortedL (ys.map It.pr) := by
        have h5 : ys.Pairwise fun x y => x.key ≠ y.key := List.pairwise_map.1 hnd
        refine List.pairwise_map.2 ((hso.and h5).imp ?_)
        rintro a b ⟨h6, h7⟩
        show ltK a.key b.key = true
        cases h8 : ltK a.key b.key with
        | true => rfl
        | false => exact absurd (ltK_total h8 h6) h7
      refine sorted_ext hsorted HS.out fun k => ?_
      have hmem : ∀ y ∈ ys, getL (ys.map It.pr) y.key = some y.val := fun y hy => getL_of_mem hsorted (List.mem_map.2 ⟨y, hy, rfl⟩)
      cases hg : getL s.L k with
      | some x =>
        obtain ⟨y, hy, rfl⟩ := H3.out k (by rw [hg]; simp)
        have h9 := (H1.out y hy).2
        rw [hmem y (hp.mem_iff.2 hy), ← h9, hg]
      | none =>
        cases hg2 : getL (ys.map It.pr) k with
        | none => rfl
        | some x =>
          obtain ⟨y, hy, he⟩ := List.mem_map.1 (getL_mem hg2)
          have h9 := (H1.out y (hp.mem_iff.1 hy)).2
          have : y.key = k := congrArg Prod.fst he
          rw [this, hg] at h9
          cases h9
    · subst hk
      have := hbel0.size
      omega
end Go.Proofs.Ytmfjhejhbomlpaa
set_option linter.unusedVariables false
set_option linter.unusedSimpArgs false
namespace Go.Proofs.Ytmfjhejhbomlpaa
open Go.RowKit Go.Shelf

/-- Pairs that can be read. -/
def PRx (w : World) (v : Value) (xs : List It) : Prop := ∃ A c, v = .slice A xs.length c ∧ xs.length ≤ c ∧ c ≤ maxLen ∧ xs.length ≤ 1000000000 ∧ Reads w w.heap.size 2 A xs.length (xs.flatMap itC) ∧ ∀ x ∈ xs, RB w x.v x.val ∧ x.key.size ≤ 1000000000
def PR (w : World) (v : Value) (L : List Pr) : Prop := ∃ xs : List It, PRx w v xs ∧ xs.map It.pr = L
theorem it_at (xs : List It) (k : Nat) (hk : k < xs.length) (j : Nat) (hj : j < 2) : (xs.flatMap itC)[k * 2 + j]? = (itC xs[k])[j]? := flatV_get itC 2 itC_len xs k j xs[k] (List.getElem?_eq_getElem hk) hj
theorem bytesL_mem : ∀ {l : List Pr} {p : Pr}, p ∈ l → p.1.size + p.2.length ≤ bytesL l
  | q :: r, p, h => by
    simp only [bytesL]
    rcases List.mem_cons.1 h with rfl | h
    · omega
    · have := bytesL_mem h
      omega
section
variable {w w' : World} {B : Nat} {v : Value} {L : List Pr} {xs : List It}
theorem PRx.below (h : PRx w v xs) (hb : Below w.heap.size w w') : PRx w' v xs := by
  obtain ⟨A, c, hv, hc, hm, hn, hr, hx⟩ := h
  exact ⟨A, c, hv, hc, hm, hn, (hr.below hb).more hb.size, fun x hx' => ⟨(hx x hx').1.below hb, (hx x hx').2⟩⟩
theorem PR.below (h : PR w v L) (hb : Below w.heap.size w w') : PR w' v L := by
  obtain ⟨xs, hx, e⟩ := h
  exact ⟨xs, hx.below hb, e⟩
theorem PRx.drewN (h : PRx w v xs) (n : Nat) : PRx (w.drewN n) v xs := h
theorem PairsAt.changed {S : Nat → Prop} (h : PairsAt w B v L) (hc : Changed S w w') (h1 : NoTy w S 43) (h2 : NoTy w S 5) : PairsAt w' B v L := by
  obtain ⟨xs, ho, hg, e⟩ := h
  exact ⟨xs, ownsRow_frame ho hc (fun k hk hs => h1 k hs (ownsRow_ty ho k hk)), fun x hx => (hg x hx).changed hc h2, e⟩
theorem PairsAt.below (h : PairsAt w B v L) (hb : Below w.heap.size w w') : PairsAt w' B v L := h.changed (Changed.of_below (S := fun _ => False) hb) (NoTy.none _ _) (NoTy.none _ _)
theorem PairsAt.low {B' : Nat} (h : PairsAt w B v L) (hb : B' ≤ B) : PairsAt w B' v L := by
  obtain ⟨xs, ⟨hl, h1⟩, hg, e⟩ := h
  refine ⟨xs, ⟨hl, ?_⟩, fun x hx => (hg x hx).low hb, e⟩
  rcases h1 with h1 | ⟨g, cap, cur, h1, h2, h3⟩
  · exact .inl h1
  · exact .inr ⟨g, cap, cur, h1, by omega, h3⟩
theorem PairsAt.pr (h : PairsAt w B v L) (hn : L.length ≤ 1000000000) (hb : bytesL L ≤ 1000000000) : PR w v L := by
  obtain ⟨xs, ho, hg, rfl⟩ := h
  rw [List.length_map] at hn
  obtain ⟨A, c, rfl, _, hc⟩ := ownsRow_slice ho
  have hmx : c ≤ maxLen := by
    obtain ⟨_, ⟨h0, h1⟩ | ⟨g, cap, cur, h0, _, _, _, h2, _⟩⟩ := ho
    · injection h0 with _ _ h0
      rw [h0]; exact Nat.zero_le _
    · injection h0 with _ _ h0
      rw [h0]; exact h2
  refine ⟨xs, ⟨A, c, rfl, hc, hmx, hn, Reads.of_own ho, fun x hx => ?_⟩, rfl⟩
  have := bytesL_mem (List.mem_map.2 ⟨x, hx, rfl⟩ : It.pr x ∈ xs.map It.pr)
  simp only [It.pr] at this
  exact ⟨(hg x hx).rb (by omega), by omega⟩
end

theorem gtr_ltK (t : TypeId) (a b : ByteArray) : binOp .gtr t (.string a) (.string b) = pure (.bool (ltK b a)) := by
  have h : ltK b a = !(Op.bytesLess a.toList b.toList || a.toList == b.toList) := by
    cases h1 : ltK b a with
    | true =>
      have h2 : Op.bytesLess a.toList b.toList = false := ltK_asymm h1
      have h3 : (a.toList == b.toList) = false := ba_ne.2 (Ne.symm (ltK_ne h1))
      rw [h2, h3]; rfl
    | false =>
      cases h2 : ltK a b with
      | true =>
        have h3 : Op.bytesLess a.toList b.toList = true := h2
        rw [h3]; rfl
      | false =>
        rw [ltK_total h1 h2]
        simp
  rw [h]
  simp [binOp, Op.stringOp]
attribute [local go_sem] gtr_ltK
/-- What a page holds. -/
def scanP (front after : ByteArray) (p : Pr) : Bool := Lib.hasPrefix p.1.data.toList front.data.toList && ltK after p.1
def scanS (front after : ByteArray) (most : Int) (out : List Pr) (p : Pr) : List Pr := if decide ((out.length : Int) < most) && scanP front after p then out ++ [p] else out
def scanL (front after : ByteArray) (most : Int) (L : List Pr) : List Pr := L.foldl (scanS front after most) []

set_option maxRecDepth 100000 in
set_option maxHeartbeats 4000000 in
theorem scan_at {w : World} {B sb bd : Nat} {s : SM} {F : Nat → Prop} (h : StoreAt w B sb bd s F) (ho : s.ok) (hmax : s.log.D.now.length ≤ 4096) (front after : ByteArray) (most : Int) (hf : front.size ≤ 1000000000) (ha : after.size ≤ 1000000000) :
    Calls Try.prog 14 #[.pointer (some ⟨sb, 0, none⟩), .string front, .string after, .int .i64 most] w fun e w' => ∃ u, e = .returned u ∧ PairsAt w' w.heap.size u (scanL front after most s.L) ∧ Below w.heap.size w w' := by
  have hall := all_at h ho hmax
  have HALL := Lib.hid hall
  have hb1 : bytesL s.L ≤ 271056896 := by
    have := ho.bytes
    have := ho.log.T_len hmax
    omega
  have hlen : s.L.length ≤ 271056897 := by
    have := sorted_len ho.sorted
    omega
  clear hall h ho hmax
  go_enter Try.func14, Try.ntmps14
  go_wp2_with (go_at_call 15; refine HALL.out.mono ?_; rintro e w1 ⟨v, rfl, hv, hbel⟩; obtain ⟨xs, hown, hg, hxs⟩ := hv; obtain ⟨A, c, hve, hAc⟩ := ownsRow_slice hown; subst hve)
  have hpr : PRx w1 (.slice A xs.length c) xs := by
    obtain ⟨ys, hy, e⟩ := PairsAt.pr ⟨xs, hown, hg, hxs⟩ (by omega) (by omega)
    obtain ⟨_, c', e1, h1, h2, h3, h4, h5⟩ := hy
    obtain ⟨_, ⟨h6, h7⟩ | ⟨g, cap, cur, h6, _, _, _, h7, _⟩⟩ := id hown
    · injection h6 with h6 h8 h9
      subst h6 h9
      have : xs = [] := List.length_eq_zero_iff.1 h8
      subst this
      exact ⟨none, 0, rfl, Nat.le_refl _, Nat.zero_le _, by simp, Reads.none_, by simp⟩
    · injection h6 with h6 h8 h9
      subst h9
      refine ⟨A, c, rfl, hAc.2, h7, by have : xs.length = s.L.length := by rw [← hxs, List.length_map]
                                       omega, Reads.of_own hown, fun x hx => ?_⟩
      have := bytesL_mem (List.mem_map.2 ⟨x, hx, rfl⟩ : It.pr x ∈ xs.map It.pr)
      rw [hxs] at this
      simp only [It.pr] at this
      exact ⟨(hg x hx).rb (by omega), by omega⟩
  have hxl : xs.length ≤ 271056897 := by
    have : xs.length = s.L.length := by rw [← hxs, List.length_map]
    omega
  have HX := Lib.hid hxs
  have HG := Lib.hid hg
  clear hxs hg hb1 hlen
  go_loopw [15, 9] (fun i o wr => ∃ (k : Nat) (ys : List It), k ≤ xs.length ∧ i = .int .i64 (k : Int) ∧ Hid (ys.map It.pr = ((xs.take k).map It.pr).foldl (scanS front after most) [] ∧ ∀ y ∈ ys, y ∈ xs) ∧ ys.length ≤ k ∧ OwnR wr w1.heap.size o ys ∧ Below w1.heap.size w1 wr) (fun i _ _ => xs.length - (intOf i).toNat)
  case atStart => exact ⟨0, [], Nat.zero_le _, rfl, Lib.hid ⟨by simp, by simp⟩, Nat.zero_le _, World.ownsRow_nil _ _ _ 2, Below.refl _ _⟩
  case round =>
    obtain ⟨k, ys, hk, rfl, HY, hyl, hownr, hbr⟩ := hrel
    obtain ⟨oA, oc, hov, _, hoc⟩ := ownsRow_slice hownr
    subst hov
    by_cases hlt : k < xs.length
    · obtain ⟨A', c', e', hc', hmx', hnx', hr, hxs⟩ := hpr.below hbr
      injection e' with e1 e2 e3
      subst e1 e3
      clear e2
      obtain ⟨ad, e', hadb, hcell⟩ := hr.2 (by omega)
      subst e'
      have hmem := List.getElem_mem hlt
      obtain ⟨⟨vA, vc, hve, _, hvn, _, _⟩, hks⟩ := hxs xs[k] hmem
      have hone : one (xs[k].v) = xs[k].v := one_self (by rw [hve]; rfl)
      have a0 : wr.cell? (ad.add (k * 2)) = some (.string xs[k].key) := hcell (k * 2) _ ((it_at xs k hlt 0 (by omega)).trans rfl)
      have a1 : wr.cell? ⟨(ad.add (k * 2)).block, (ad.add (k * 2)).off + 1, none⟩ = some (.slice vA xs[k].val.length vc) := by
        rw [← addr_pos (ad.add (k * 2)) 1 (by omega), add_of_add]
        exact hcell (k * 2 + 1) _ ((it_at xs k hlt 1 (by omega)).trans (by show some (one xs[k].v) = _; rw [hone, hve]))
      have hst : ((xs.take (k + 1)).map It.pr).foldl (scanS front after most) [] = scanS front after most (ys.map It.pr) (It.pr xs[k]) := by
        rw [List.take_succ_eq_append_getElem hlt, List.map_append, List.foldl_append, HY.out.1]
        rfl
      have HST := Lib.hid hst
      have hitc : itC xs[k] = [.string xs[k].key, .slice vA xs[k].val.length vc] := by unfold itC; rw [hone, hve]
      have HIT := Lib.hid hitc
      have HMEM := Lib.hid hmem
      obtain ⟨x, hx⟩ : ∃ x, xs[k] = x := ⟨_, rfl⟩
      rw [hx] at a0 a1 hks HST HIT HMEM hvn
      clear hx hst hitc hmem hone hve hr hxs hcell HALL
      obtain ⟨nv, hnv⟩ : ∃ nv, x.val.length = nv := ⟨_, rfl⟩
      rw [hnv] at a1 HIT hvn
      obtain ⟨key, hkey⟩ : ∃ key, x.key = key := ⟨_, rfl⟩
      have hpr2 : It.pr x = (key, x.val) := by rw [← hkey]; rfl
      rw [hkey] at a0 HIT hks
      have HP := Lib.hid hpr2
      clear hkey hnv hpr2
      have HS0 : Hid (scanS front after most (ys.map It.pr) (It.pr x) = if decide ((ys.length : Int) < most) && (Lib.hasPrefix key.data.toList front.data.toList && ltK after key) then ys.map It.pr ++ [It.pr x] else ys.map It.pr) := Lib.hid (by unfold scanS scanP; rw [HP.out, List.length_map])
      clear HP
      have hcp := Try.strings_HasPrefix key front
      generalize Lib.hasPrefix key.data.toList front.data.toList = p1 at *
      obtain ⟨p2, hb2⟩ : ∃ p2, ltK after key = p2 := ⟨_, rfl⟩
      obtain ⟨p3, hb3⟩ : ∃ p3, decide ((ys.length : Int) < most) = p3 := ⟨_, rfl⟩
      rw [hb3, hb2] at HS0
      have HCP := Lib.hid hcp
      clear hcp
      have hbr2 : Below w1.heap.size w1 (wr.alloc (.cells #[.string key, .slice vA nv vc] 43)) := hbr.alloc hbr.size _
      have hown2 : OwnR (wr.alloc (.cells #[.string key, .slice vA nv vc] 43)) w1.heap.size (.slice oA ys.length oc) ys := World.ownsRow.alloc hownr _
      by_cases hgo : (p3 && (p1 && p2)) = true
      · simp only [Bool.and_eq_true] at hgo
        obtain ⟨rfl, rfl, rfl⟩ := hgo
        have hlm : (ys.length : Int) < most := by simpa using hb3
        have HO := Lib.hid hownr
        clear hownr
        go_wp2_with (first
          | (go_at_call 38; refine (HCP.out _).mono ?_; rintro e w' ⟨rfl, rfl⟩)
          | (at_builtin; go_loud (refine wpList_appendS (w0 := w1) (W := wr.alloc (.cells #[.string key, .slice vA nv vc] 43)) rfl (.tmp 35) (.tmp 37) 39 43 _ 2 40 rfl Try.underlying39 pair_info rfl (by omega) (by omega) (.slice oA ys.length oc) ys.length (ys.flatMap itC) [.string key, .slice vA nv vc] rfl (congrArg (fun n => Value.slice (some ⟨n, 0, none⟩) 1 1) (World.size_alloc _ _).symm) (by simp [Value.oneCell']) rfl hown2 hbr2 hbr2.size (by omega) ?_; intro v3 w3 hown3 hb3 hg3 hat3)))
        go_roundw
        case rel =>
          refine ⟨k + 1, ys ++ [x], by omega, by go_num, Lib.hid ⟨?_, fun y hy => ?_⟩, by simp; omega, ?_, hb3⟩
          · rw [HST.out, HS0.out, List.map_append]; rfl
          · rcases List.mem_append.1 hy with hy | hy
            · exact HY.out.2 y hy
            · rw [List.mem_singleton.1 hy]; exact HMEM.out
          · unfold OwnR
            rw [List.length_append, List.length_singleton, List.flatMap_append, List.flatMap_singleton, HIT.out]
            exact hown3
        case measure => simp [intOf]; omega
      · have HN : Hid (scanS front after most (ys.map It.pr) (It.pr x) = ys.map It.pr) := Lib.hid (by rw [HS0.out, if_neg hgo])
        have hfin : Hid (∃ (k' : Nat) (zs : List It), k' ≤ xs.length ∧ (k' : Int) = (k : Int) + 1 ∧ Hid (zs.map It.pr = ((xs.take k').map It.pr).foldl (scanS front after most) [] ∧ ∀ y ∈ zs, y ∈ xs) ∧ zs.length ≤ k' ∧ OwnR (wr.alloc (.cells #[.string key, .slice vA nv vc] 43)) w1.heap.size (.slice oA ys.length oc) zs ∧ Below w1.heap.size w1 (wr.alloc (.cells #[.string key, .slice vA nv vc] 43))) :=
          Lib.hid ⟨k + 1, ys, by omega, by omega, Lib.hid ⟨by rw [HST.out, HN.out], HY.out.2⟩, by omega, hown2, hbr2⟩
        clear HS0 HN hown2 hbr2 HST HIT HY HMEM
        cases p3 with
        | false =>
          have hlm : ¬ (ys.length : Int) < most := by simpa using hb3
          go_wp2
          go_roundw
          case rel =>
            obtain ⟨k', zs, h1, h2, h3⟩ := hfin.out
            exact ⟨k', zs, h1, by go_num, h3⟩
          case measure => simp [intOf]; omega
        | true =>
          have hlm : (ys.length : Int) < most := by simpa using hb3
          cases p1 with
          | false =>
            go_wp2_with (first
              | (go_at_call 38; refine (HCP.out _).mono ?_; rintro e w' ⟨rfl, rfl⟩))
            go_roundw
            case rel =>
              obtain ⟨k', zs, h1, h2, h3⟩ := hfin.out
              exact ⟨k', zs, h1, by go_num, h3⟩
            case measure => simp [intOf]; omega
          | true =>
            cases p2 with
            | true => exact absurd rfl hgo
            | false =>
              go_wp2_with (first
                | (go_at_call 38; refine (HCP.out _).mono ?_; rintro e w' ⟨rfl, rfl⟩))
              go_roundw
              case rel =>
                obtain ⟨k', zs, h1, h2, h3⟩ := hfin.out
                exact ⟨k', zs, h1, by go_num, h3⟩
              case measure => simp [intOf]; omega
    · obtain rfl : k = xs.length := by omega
      go_wp2
      go_ret
      refine ⟨_, rfl, ⟨ys, ?_, fun y hy => (OwnB.changed (HG.out y (HY.out.2 y hy)) (Changed.of_below (S := fun _ => False) hbr) (NoTy.none _ _)), ?_⟩, Below.step hbel hbel.size hbr⟩
      · obtain ⟨h1, h2⟩ := hownr
        refine ⟨h1, ?_⟩
        have := hbel.size
        rcases h2 with h2 | ⟨g, cap, cur, h3, h4, h5⟩
        · exact .inl h2
        · exact .inr ⟨g, cap, cur, h3, by omega, h5⟩
      · rw [HY.out.1, List.take_length, HX.out]; rfl
end Go.Proofs.Ytmfjhejhbomlpaa
