/- Arguments as they come in: calls. -/
import Derived.Test.YtmfjhejhbomlpaaQb
import Derived.Test.YtmfjhejhbomlpaaTk
set_option linter.unusedVariables false
set_option linter.unusedSimpArgs false
namespace Go.Proofs.Ytmfjhejhbomlpaa
open Go.RowKit Go.ChangeShapes Go.WideShapes Go.Deep

section
variable {H : Type} {enc : TypeId × Value → H} {w : World}
theorem i64_wf {n : Int} (h : (Lit.int .i64 n).wf = true) : -9223372036854775808 ≤ n ∧ n ≤ 9223372036854775807 := by
  simpa [Lit.wf, IntKind.min, IntKind.max, IntKind.signed, IntKind.bits] using h
theorem flat_bools : ∀ xs : List Bool, (xs.map fun b : Bool => [Value.bool b]).flatten = bools xs
  | [] => rfl
  | x :: xs => by rw [List.map_cons, List.flatten_cons, flat_bools xs]; rfl
theorem cells4 : Try.prog.cellsOf 4 = 1 := by kernel_rfl
theorem bytes4 : Try.prog.bytesOf 4 = 1 := by kernel_rfl
theorem Rd.bools {v : Value} (h : Rd enc Try.prog w 36 [v]) : ∃ xs, RL w v (bools xs) := by
  rcases h.slice Try.underlying36 cells4 (by omega) with h0 | ⟨a, len, cap, css, hcs, hl, hm, hw, hlen, hall, hr⟩
  · injection h0 with h0
    subst h0
    exact ⟨[], none, 0, rfl, by simp [Go.Proofs.Ytmfjhejhbomlpaa.bools], by simp [Go.Proofs.Ytmfjhejhbomlpaa.bools], Nat.zero_le _, Reads.none_⟩
  · injection hcs with hcs
    subst hcs
    obtain ⟨xs, rfl, _⟩ := all_map (f := fun b : Bool => [Value.bool b]) (p := fun _ => True) (l := css) fun cs hcs => by
      obtain ⟨b, rfl⟩ := (hall cs hcs).2.bool Try.underlying4
      exact ⟨b, rfl, trivial⟩
    rw [flat_bools] at hr
    rw [List.length_map] at hlen
    rw [bytes4, Nat.mul_one] at hw
    subst hlen
    exact ⟨xs, some a, cap, by rw [bools_length], by rw [bools_length]; exact hl, by rw [bools_length]; exact hw, hm, by rw [bools_length]; exact hr⟩
theorem cells38 : Try.prog.cellsOf 38 = 4 := by kernel_rfl
theorem Rd.do_ {cs : List Value} (h : Rd enc Try.prog w 38 cs) (hl : cs.length = 4) : ∃ x : DoR, cs = doC x ∧ DoOk w x := by
  have hf := h.struct Try.underlying38 (by kernel_rfl) hl
  obtain ⟨v0, e0, r0⟩ := hf 0 _ rfl
  obtain ⟨v1, e1, r1⟩ := hf 1 _ rfl
  obtain ⟨v2, e2, r2⟩ := hf 2 _ rfl
  obtain ⟨v3, e3, r3⟩ := hf 3 _ rfl
  obtain ⟨n0, h0, _⟩ := r0.int Try.underlying3
  obtain ⟨n1, h1, hw1⟩ := r1.int Try.underlying3
  obtain ⟨xs, hxs⟩ := r2.changes
  obtain ⟨ks, hks⟩ := r3.bools
  injection h0 with h0
  injection h1 with h1
  subst h0 h1
  refine ⟨⟨n0, n1, v2, xs, v3, ks⟩, ?_, hxs, hks, i64_wf hw1⟩
  match cs, hl with
  | [c0, c1, c2, c3], _ =>
    simp at e0 e1 e2 e3
    subst e0 e1 e2 e3
    rfl
theorem Rd.dos {v : Value} (h : Rd enc Try.prog w 22 [v]) : ∃ ds, DoL w v ds := by
  rcases h.slice Try.underlying22 cells38 (by omega) with h0 | ⟨a, len, cap, css, hcs, hl, hm, hw, hlen, hall, hr⟩
  · injection h0 with h0
    subst h0
    exact ⟨[], none, 0, rfl, by simp, by simp, Reads.none_, by simp⟩
  · injection hcs with hcs
    subst hcs
    obtain ⟨ds, rfl, hp⟩ := all_map (f := doC) (p := fun x => DoOk w x) (l := css) fun cs hcs => (hall cs hcs).2.do_ (hall cs hcs).1
    rw [List.length_map] at hlen
    subst hlen
    exact ⟨ds, some a, cap, rfl, hl, hm, hr, hp⟩
end
end Go.Proofs.Ytmfjhejhbomlpaa
