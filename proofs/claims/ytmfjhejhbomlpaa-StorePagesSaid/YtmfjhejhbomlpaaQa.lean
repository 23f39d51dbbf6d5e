/- Arguments as they come in: read down to lists. -/
import Derived.Test.YtmfjhejhbomlpaaSn
import Derived.Deep.Slices
import Derived.Deep.Fields
import Derived.ChangeSame
import Derived.SizedLaws
set_option linter.unusedVariables false
set_option linter.unusedSimpArgs false
namespace Go.Proofs.Ytmfjhejhbomlpaa
open Go.RowKit Go.ChangeShapes Go.WideShapes Go.Deep

/-- Cells that read as something of a type, none of it too large. -/
def Rd {H : Type} (enc : TypeId × Value → H) (P : Program) (w : World) (t : TypeId) (cs : List Value) : Prop :=
  ∃ fuel d ps, DataW.trod enc P w 0 (fun _ => true) true fuel t cs = some (d, ps) ∧ (d.weights P t).all (· ≤ reachBytes) = true
section
variable {H : Type} {enc : TypeId × Value → H} {P : Program} {w : World} {t : TypeId}
theorem weights_all {e : TypeId} : ∀ {l : List (DataW H)} {d : DataW H}, d ∈ l → (DataW.weightsAll P e l).all (· ≤ reachBytes) = true → (d.weights P e).all (· ≤ reachBytes) = true
  | d0 :: l, d, hm, h => by
    rw [DataW.weightsAll, List.all_append, Bool.and_eq_true] at h
    rcases List.mem_cons.1 hm with rfl | hm
    · exact h.1
    · exact weights_all hm h.2
theorem weights_each : ∀ {ts : List TypeId} {ds : List (DataW H)} {j : Nat} {t : TypeId} {d : DataW H}, ts[j]? = some t → ds[j]? = some d → (DataW.weightsEach P ts ds).all (· ≤ reachBytes) = true → (d.weights P t).all (· ≤ reachBytes) = true
  | t0 :: ts, d0 :: ds, 0, t, d, ht, hd, h => by
    simp only [List.getElem?_cons_zero, Option.some.injEq] at ht hd
    subst ht hd
    rw [DataW.weightsEach, List.all_append, Bool.and_eq_true] at h
    exact h.1
  | t0 :: ts, d0 :: ds, j + 1, t, d, ht, hd, h => by
    simp only [List.getElem?_cons_succ] at ht hd
    rw [DataW.weightsEach, List.all_append, Bool.and_eq_true] at h
    exact weights_each ht hd h.2
  | [], _, _, _, _, ht, _, _ => by simp at ht
  | _ :: _, [], _, _, _, _, hd, _ => by simp at hd
theorem Rd.int {k : IntKind} {cs : List Value} (ht : P.underlying t = some (.int k)) (h : Rd enc P w t cs) : ∃ n, cs = [.int k n] ∧ (Lit.int k n).wf = true := by
  obtain ⟨fuel, d, ps, h, _⟩ := h
  obtain ⟨n, rfl, _, hw⟩ := DataW.trod_int ht h
  exact ⟨n, rfl, hw⟩
theorem Rd.bool {cs : List Value} (ht : P.underlying t = some .bool) (h : Rd enc P w t cs) : ∃ b, cs = [.bool b] := by
  obtain ⟨fuel, d, ps, h, _⟩ := h
  obtain ⟨n, rfl, _⟩ := DataW.trod_bool ht h
  exact ⟨n, rfl⟩
theorem Rd.string {cs : List Value} (ht : P.underlying t = some .string) (h : Rd enc P w t cs) : ∃ s : ByteArray, cs = [.string s] ∧ s.size ≤ reachBytes := by
  obtain ⟨fuel, d, ps, h, hw⟩ := h
  obtain ⟨s, rfl, hx, _⟩ := DataW.trod_string ht h
  refine ⟨s, rfl, ?_⟩
  injection hx with hx _
  subst hx
  simpa [DataW.weights] using hw
theorem flat_range {n : Nat} (C : Nat → List Value) : ∀ (len : Nat), (∀ i, i < len → (C i).length = n) → ((List.range len).map C).flatten.length = len * n ∧ ∀ i j, i < len → j < n → ((List.range len).map C).flatten[i * n + j]? = (C i)[j]?
  | 0, _ => by simp
  | k + 1, h => by
    obtain ⟨h1, h2⟩ := flat_range C k (fun i hi => h i (by omega))
    have e : ((List.range (k + 1)).map C).flatten = ((List.range k).map C).flatten ++ C k := by rw [List.range_succ, List.map_append, List.flatten_append]; simp
    rw [e]
    refine ⟨by rw [List.length_append, h1, h k (by omega), Nat.succ_mul], fun i j hi hj => ?_⟩
    rcases Nat.lt_or_ge i k with hik | hik
    · have hlt : i * n + j < k * n := by
        have := Nat.mul_le_mul_right n (show i + 1 ≤ k by omega)
        rw [Nat.succ_mul] at this
        omega
      rw [List.getElem?_append_left (by rw [h1]; exact hlt), h2 i j hik hj]
    · obtain rfl : i = k := by omega
      rw [List.getElem?_append_right (by rw [h1]; omega), h1, Nat.add_sub_cancel_left]
theorem Rd.slice {e : TypeId} {n : Nat} {cs : List Value} (ht : P.underlying t = some (.slice e)) (hC : P.cellsOf e = n) (hn : 0 < n) (h : Rd enc P w t cs) :
    cs = [.slice none 0 0] ∨ ∃ (a : Addr) (len cap : Nat) (css : List (List Value)), cs = [.slice (some a) len cap] ∧ len ≤ cap ∧ cap ≤ maxLen ∧ len * P.bytesOf e ≤ reachBytes ∧ css.length = len ∧ (∀ cs ∈ css, cs.length = n ∧ Rd enc P w e cs) ∧ Reads w w.heap.size n (some a) len css.flatten := by
  obtain ⟨fuel, d, ps, h, hw⟩ := h
  rcases open_slice ht h with ⟨h0, _⟩ | ⟨a, len, cap, m, f, D, Pl, hcs, _, hl, hm, hmm, hx, hi⟩
  · exact .inl h0
  · right
    have hmc : m = cap := by simpa using hmm
    subst hmc
    rw [hC] at hi
    injection hx with hx _
    subst hx
    rw [DataW.weights, ht] at hw
    simp only [List.all_cons, Bool.and_eq_true, List.all_append, decide_eq_true_eq, List.length_map, List.length_range] at hw
    obtain ⟨hw1, hw2, _⟩ := hw
    have hi' : ∀ i, i < len → ∃ cs', w.cells? 0 (a.add (i * n)) n = some cs' ∧ DataW.trod enc P w 0 (fun _ => true) true f e cs' = some (D i, Pl i) := fun i him => hi i (by omega)
    obtain ⟨C, hCc⟩ := choose_lt hi'
    have hlen : ∀ i, i < len → (C i).length = n := fun i him => (World.cells?_some (hCc i him).1).2.1
    refine ⟨a, len, m, (List.range len).map C, hcs, hl, hm, ?_, by simp, fun cs hcs => ?_, ?_⟩
    · have h1 := Nat.mul_le_mul_right (P.bytesOf e) (Nat.le_add_right len (m - len))
      exact Nat.le_trans h1 hw1
    · obtain ⟨i, hil, rfl⟩ := List.mem_map.1 hcs
      rw [List.mem_range] at hil
      exact ⟨hlen i hil, f, D i, Pl i, (hCc i hil).2, weights_all (List.mem_map.2 ⟨i, List.mem_range.2 hil, rfl⟩) hw2⟩
    · obtain ⟨f1, f2⟩ := flat_range C len hlen
      refine ⟨f1, fun h0 => ⟨a, rfl, ?_, ?_⟩⟩
      · obtain ⟨_, _, hat⟩ := World.cells?_some (hCc 0 h0).1
        have h1 := hat 0 hn
        rw [List.getElem?_eq_getElem (by rw [hlen 0 h0]; exact hn)] at h1
        have h2 := World.block_lt_of_cell? _ _ h1
        rw [block_of_add, block_of_add] at h2
        exact h2
      · intro q u hq
        have hql : q < len * n := by rw [← f1]; exact (List.getElem?_eq_some_iff.1 hq).1
        have hi := Nat.div_lt_of_lt_mul (by rw [Nat.mul_comm]; exact hql : q < n * len)
        have hj := Nat.mod_lt q hn
        have e : q / n * n + q % n = q := by rw [Nat.mul_comm]; exact Nat.div_add_mod q n
        have h3 := f2 (q / n) (q % n) hi hj
        rw [e, hq] at h3
        obtain ⟨_, _, hat⟩ := World.cells?_some (hCc (q / n) hi).1
        have h4 := hat (q % n) hj
        rw [← h3, add_of_add, e] at h4
        exact h4
theorem Rd.struct {fs : Array Field} {cs : List Value} (ht : P.underlying t = some (.struct fs)) (hone : oneCellFields P fs = true) (h : Rd enc P w t cs) (hl : cs.length = fs.size) :
    ∀ (j : Nat) (f : Field), fs[j]? = some f → ∃ v, cs[j]? = some v ∧ Rd enc P w f.type [v] := by
  intro j f hj
  obtain ⟨fuel, d, ps, h, hw⟩ := h
  obtain ⟨ys, n', _, hy, hlen, hyl, hf⟩ := DataW.trod_struct ht h
  simp only [Prod.mk.injEq] at hy
  obtain ⟨rfl, rfl⟩ := hy
  obtain ⟨ho, hk⟩ := hone_of hone j f hj
  have hjl : j < fs.size := (Array.getElem?_eq_some_iff.1 hj).1
  have h1 := hf j f hj
  rw [ho, hk] at h1
  have hone' : (cs.drop j).take 1 = [cs[j]'(by omega)] := by
    rw [List.drop_eq_getElem_cons (by omega)]
    rfl
  rw [hone'] at h1
  have hys : ys[j]? = some (ys[j]'(by omega)) := List.getElem?_eq_getElem (by omega)
  rw [hys] at h1
  rw [DataW.weights, ht] at hw
  refine ⟨_, List.getElem?_eq_getElem (by omega), n', _, _, h1, weights_each (j := j) (ts := fs.toList.map (·.type)) (ds := ys.map (·.1)) ?_ ?_ hw⟩
  · rw [List.getElem?_map, Array.getElem?_toList, hj]; rfl
  · rw [List.getElem?_map, hys]; rfl
end
end Go.Proofs.Ytmfjhejhbomlpaa
