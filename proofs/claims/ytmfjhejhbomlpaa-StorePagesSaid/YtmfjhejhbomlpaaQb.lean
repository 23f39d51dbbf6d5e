/- Arguments as they come in: bytes, changes. -/
import Derived.Test.YtmfjhejhbomlpaaQa
set_option linter.unusedVariables false
set_option linter.unusedSimpArgs false
namespace Go.Proofs.Ytmfjhejhbomlpaa
open Go.RowKit Go.ChangeShapes Go.WideShapes Go.Deep

theorem all_map {α β : Type} {f : α → β} {p : α → Prop} : ∀ {l : List β}, (∀ y ∈ l, ∃ x, y = f x ∧ p x) → ∃ xs : List α, l = xs.map f ∧ ∀ x ∈ xs, p x
  | [], _ => ⟨[], rfl, by simp⟩
  | y :: l, h => by
    obtain ⟨x, hx, hp⟩ := h y (by simp)
    obtain ⟨xs, hxs, hps⟩ := all_map (l := l) fun z hz => h z (by simp [hz])
    refine ⟨x :: xs, by rw [hx, hxs]; rfl, fun z hz => ?_⟩
    rcases List.mem_cons.1 hz with rfl | hz
    · exact hp
    · exact hps z hz
section
variable {H : Type} {enc : TypeId × Value → H} {w : World}
theorem u8_wf {n : Int} (h : (Lit.int .u8 n).wf = true) : ∃ b : UInt8, n = (b.toNat : Int) := by
  have h1 : 0 ≤ n ∧ n ≤ 255 := by simpa [Lit.wf, IntKind.min, IntKind.max, IntKind.signed, IntKind.bits] using h
  refine ⟨UInt8.ofNat n.toNat, ?_⟩
  simp
  omega
theorem flat_bs : ∀ xs : List UInt8, (xs.map fun b : UInt8 => [Value.int .u8 (b.toNat : Int)]).flatten = bs xs
  | [] => rfl
  | x :: xs => by rw [List.map_cons, List.flatten_cons, flat_bs xs]; rfl
theorem cells5 : Try.prog.cellsOf 5 = 1 := by kernel_rfl
theorem bytes5 : Try.prog.bytesOf 5 = 1 := by kernel_rfl
theorem Rd.bytes {v : Value} (h : Rd enc Try.prog w 41 [v]) : ∃ xs, RB w v xs := by
  rcases h.slice Try.underlying41 cells5 (by omega) with h0 | ⟨a, len, cap, css, hcs, hl, hm, hw, hlen, hall, hr⟩
  · injection h0 with h0
    subst h0
    exact ⟨[], RB.nil w⟩
  · injection hcs with hcs
    subst hcs
    obtain ⟨xs, rfl, _⟩ := all_map (f := fun b : UInt8 => [Value.int .u8 (b.toNat : Int)]) (p := fun _ => True) (l := css) fun cs hcs => by
      obtain ⟨n, rfl, hwf⟩ := (hall cs hcs).2.int Try.underlying5
      obtain ⟨b, rfl⟩ := u8_wf hwf
      exact ⟨b, rfl, trivial⟩
    rw [flat_bs] at hr
    rw [List.length_map] at hlen
    refine ⟨xs, RB.mk' hlen hl ?_ hm hr⟩
    rw [bytes5, Nat.mul_one] at hw
    exact hw
theorem cells81 : Try.prog.cellsOf 81 = 3 := by kernel_rfl
theorem hone81 : oneCellFields Try.prog (match Try.prog.underlying 81 with | some (.struct fs) => fs | _ => #[]) = true := by kernel_rfl
theorem Rd.change {cs : List Value} (h : Rd enc Try.prog w 81 cs) (hl : cs.length = 3) : ∃ x : Chg × Value, cs = chc x ∧ RB w x.2 x.1.val ∧ x.1.key.size ≤ reachBytes := by
  have hf := h.struct Try.underlying81 (by kernel_rfl) hl
  obtain ⟨v0, e0, r0⟩ := hf 0 _ rfl
  obtain ⟨v1, e1, r1⟩ := hf 1 _ rfl
  obtain ⟨v2, e2, r2⟩ := hf 2 _ rfl
  obtain ⟨s, hs, hsz⟩ := r0.string Try.underlying9
  obtain ⟨b, hb⟩ := r1.bool Try.underlying4
  obtain ⟨xs, hxs⟩ := r2.bytes
  injection hs with hs
  injection hb with hb
  subst hs hb
  refine ⟨(⟨s, b, xs⟩, v2), ?_, hxs, hsz⟩
  match cs, hl with
  | [c0, c1, c2], _ =>
    simp at e0 e1 e2
    subst e0 e1 e2
    rfl
theorem Rd.changes {v : Value} (h : Rd enc Try.prog w 34 [v]) : ∃ xs, CLr w v xs := by
  rcases h.slice Try.underlying34 cells81 (by omega) with h0 | ⟨a, len, cap, css, hcs, hl, hm, hw, hlen, hall, hr⟩
  · injection h0 with h0
    subst h0
    exact ⟨[], none, 0, rfl, by simp, by simp, Reads.none_, by simp⟩
  · injection hcs with hcs
    subst hcs
    obtain ⟨xs, rfl, hp⟩ := all_map (f := chc) (p := fun x => RB w x.2 x.1.val ∧ x.1.key.size ≤ reachBytes) (l := css) fun cs hcs => (hall cs hcs).2.change (hall cs hcs).1
    rw [List.length_map] at hlen
    subst hlen
    exact ⟨xs, some a, cap, rfl, hl, hm, hr, fun x hx => ⟨(hp x hx).1, Nat.le_trans (hp x hx).2 (by unfold maxLen; decide)⟩⟩
end
end Go.Proofs.Ytmfjhejhbomlpaa
