/- Walks of the disk. -/
import Derived.Test.YtmfjhejhbomlpaaWa
import Derived.Test.YtmfjhejhbomlpaaDm
set_option linter.unusedVariables false
set_option linter.unusedSimpArgs false
namespace Go.Proofs.Ytmfjhejhbomlpaa
open Go.RowKit

theorem made_nil (w : World) : Calls Try.prog 45 #[.pointer none] w fun e w' => e = .returned (.bool false) ∧ w = w' := by
  go_enter Try.func45, Try.ntmps45
  go_wp2
  go_ret
  exact ⟨rfl, rfl⟩

theorem made_calls {b bf bn : Nat} {ov : Value} {D : DM} (w : World) (h : DiskB w b bf bn ov D) :
    Calls Try.prog 45 #[.pointer (some ⟨b, 0, none⟩)] w fun e w' => e = .returned (.bool true) ∧ w = w' := by
  have c1 := h.head.cell 1
  simp at c1
  have he := run_neq_slice_nil_any (P := Try.prog) w 69 97 (some ⟨bn, 0, none⟩) D.now.length D.now.length 0 0 Try.underlying69
  simp only [Option.isNone_some, Bool.not_false] at he
  go_enter Try.func45, Try.ntmps45
  go_wp2
  go_ret
  exact ⟨rfl, rfl⟩

theorem sectors_nil (w : World) : Calls Try.prog 48 #[.pointer none] w fun e w' => e = .returned (.int .i64 0) ∧ w = w' := by
  go_enter Try.func48, Try.ntmps48
  go_wp2_with (go_at_call 45; refine (made_nil _).mono ?_; rintro e w' ⟨rfl, rfl⟩)
  go_ret
  exact ⟨rfl, rfl⟩

theorem sectors_calls {b bf bn : Nat} {ov : Value} {D : DM} (w : World) (h : DiskB w b bf bn ov D) :
    Calls Try.prog 48 #[.pointer (some ⟨b, 0, none⟩)] w fun e w' => e = .returned (.int .i64 (D.now.length : Int)) ∧ w = w' := by
  have c1 := h.head.cell 1
  simp at c1
  go_enter Try.func48, Try.ntmps48
  go_wp2_with (go_at_call 45; refine (made_calls _ h).mono ?_; rintro e w' ⟨rfl, rfl⟩)
  go_ret
  exact ⟨rfl, rfl⟩

theorem ready_calls {b bf bn : Nat} {ov : Value} {D : DM} (w : World) (h : DiskB w b bf bn ov D) :
    Calls Try.prog 44 #[.pointer (some ⟨b, 0, none⟩)] w fun e w' => e = .returned (.int .i64 (D.ready : Int)) ∧ w = w' := by
  have c1 := h.head.cell 5
  simp at c1
  cases hoff : D.off
  · rw [hoff] at c1
    have hr : D.ready = 0 := by simp [DM.ready, hoff]
    have HR := Lib.hid hr
    clear hr hoff
    go_enter Try.func44, Try.ntmps44
    go_wp2_with (go_at_call 45; refine (made_calls _ h).mono ?_; rintro e w' ⟨rfl, rfl⟩)
    go_ret
    exact ⟨by rw [HR.out]; rfl, rfl⟩
  · rw [hoff] at c1
    have hr : D.ready = 14 := by simp [DM.ready, hoff]
    have HR := Lib.hid hr
    clear hr hoff
    go_enter Try.func44, Try.ntmps44
    go_wp2_with (go_at_call 45; refine (made_calls _ h).mono ?_; rintro e w' ⟨rfl, rfl⟩)
    go_ret
    exact ⟨by rw [HR.out]; rfl, rfl⟩

theorem step_calls {b bf bn : Nat} {ov : Value} {D : DM} (w : World) (h : DiskB w b bf bn ov D) :
    Calls Try.prog 87 #[.pointer (some ⟨b, 0, none⟩)] w fun e w' => e = .returned (.int .i64 (D.steps : Int)) ∧ DiskB w' b bf bn ov D.stepped ∧ Changed (· = b) w w' := by
  have c3 := h.head.cell 3
  have c4 := h.head.cell 4
  have c5 := h.head.cell 5
  have f4 := h.head.frozen 4
  have f5 := h.head.frozen 5
  simp at c3 c4 c5
  have hl := h.ok.left63
  unfold maxLen at hl
  cases ha : D.armed
  · rw [ha] at c3
    have hs : D.stepped = D := by simp [DM.stepped, ha]
    have hr : D.steps = 0 := by simp [DM.steps, ha]
    have HS := Lib.hid hs
    have HR := Lib.hid hr
    clear hs hr ha
    go_enter Try.func87, Try.ntmps87
    go_wp2
    go_ret
    exact ⟨by rw [HR.out]; rfl, by rw [HS.out]; exact h, Changed.refl _ _⟩
  · rw [ha] at c3
    by_cases h0 : D.left = 0
    · have hs : D.stepped = { D with off := true } := by simp [DM.stepped, ha, h0]
      have hr : D.steps = 14 := by simp [DM.steps, ha, h0]
      have HS := Lib.hid hs
      have HR := Lib.hid hr
      have HA := Lib.hid ha
      clear hs hr ha
      go_enter Try.func87, Try.ntmps87
      go_wp2
      go_ret
      refine ⟨by rw [HR.out]; rfl, ?_, Changed.setCell _ _ _ rfl⟩
      rw [HS.out]
      exact h.rehead (Changed.setCell _ _ _ rfl) _ rfl rfl rfl h.ok.left63 (h.head.set_ 5 _)
    · have hs : D.stepped = { D with left := D.left - 1 } := by simp [DM.stepped, ha, h0]
      have hr : D.steps = 0 := by simp [DM.steps, ha, h0]
      have HS := Lib.hid hs
      have HR := Lib.hid hr
      clear hs hr ha
      have h1 : (D.left : Int) ≠ 0 := by omega
      go_enter Try.func87, Try.ntmps87
      go_wp2
      go_ret
      refine ⟨by rw [HR.out]; rfl, ?_, Changed.setCell _ _ _ rfl⟩
      rw [HS.out]
      refine h.rehead (Changed.setCell _ _ _ rfl) _ rfl rfl rfl (by have := h.ok.left63; show D.left - 1 ≤ _; omega) ?_
      have := h.head.set_ 4 (.int .i64 ((D.left - 1 : Nat) : Int))
      rw [show ((D.left : Int) - 1) = ((D.left - 1 : Nat) : Int) by omega]
      exact this
end Go.Proofs.Ytmfjhejhbomlpaa
