/- Walks of the disk: armed, read, made. -/
import Derived.Test.YtmfjhejhbomlpaaWc
import Derived.Test.YtmfjhejhbomlpaaBase3
set_option linter.unusedVariables false
set_option linter.unusedSimpArgs false
namespace Go.Proofs.Ytmfjhejhbomlpaa
open Go.RowKit

def DM.arm (D : DM) (n : Int) : DM := if D.off then D else if n < 0 then D else { D with armed := true, left := n.toNat }
def DM.armE (D : DM) (n : Int) : Nat := if D.off then 14 else if n < 0 then 2 else 0

theorem arm_calls {b bf bn : Nat} {ov : Value} {D : DM} (w : World) (h : DiskB w b bf bn ov D) (n : Int) (hn : n ≤ 9223372036854775807) :
    Calls Try.prog 20 #[.pointer (some ⟨b, 0, none⟩), .int .i64 n] w fun e w' => e = .returned (.int .i64 (D.armE n : Int)) ∧ DiskB w' b bf bn ov (D.arm n) ∧ Changed (· = b) w w' := by
  have c3 := h.head.cell 3
  have c4 := h.head.cell 4
  have f3 := h.head.frozen 3
  have f4 := h.head.frozen 4
  simp at c3 c4
  by_cases ho : D.off = true
  · have hr : D.ready = 14 := by simp [DM.ready, ho]
    have hs : D.arm n = D := by simp [DM.arm, ho]
    have he : D.armE n = 14 := by simp [DM.armE, ho]
    have HR := Lib.hid hr; have HS := Lib.hid hs; have HE := Lib.hid he
    clear hr hs he ho
    go_enter Try.func20, Try.ntmps20
    go_wp2_with (go_at_call 44; refine (ready_calls _ h).mono ?_; rintro e w' ⟨rfl, rfl⟩; rw [HR.out])
    go_ret
    exact ⟨by rw [HE.out]; rfl, by rw [HS.out]; exact h, Changed.refl _ _⟩
  · have hr : D.ready = 0 := by simp [DM.ready, ho]
    have HR := Lib.hid hr
    clear hr
    by_cases h0 : n < 0
    · have hs : D.arm n = D := by simp [DM.arm, h0]
      have he : D.armE n = 2 := by simp [DM.armE, ho, h0]
      have HS := Lib.hid hs; have HE := Lib.hid he
      clear hs he ho
      go_enter Try.func20, Try.ntmps20
      go_wp2_with (go_at_call 44; refine (ready_calls _ h).mono ?_; rintro e w' ⟨rfl, rfl⟩; rw [HR.out])
      go_ret
      exact ⟨by rw [HE.out]; rfl, by rw [HS.out]; exact h, Changed.refl _ _⟩
    · have hs : D.arm n = { D with armed := true, left := n.toNat } := by simp [DM.arm, ho, h0]
      have he : D.armE n = 0 := by simp [DM.armE, ho, h0]
      have HS := Lib.hid hs; have HE := Lib.hid he
      clear hs he ho
      go_enter Try.func20, Try.ntmps20
      go_wp2_with (go_at_call 44; refine (ready_calls _ h).mono ?_; rintro e w' ⟨rfl, rfl⟩; rw [HR.out])
      go_ret
      have hcc : Changed (· = b) w ((w.setCell ⟨b, 3, none⟩ (.bool true)).setCell ⟨b, 4, none⟩ (.int .i64 n)) := (Changed.setCell (S := (· = b)) w ⟨b, 3, none⟩ _ rfl).trans (Changed.setCell (S := (· = b)) _ ⟨b, 4, none⟩ _ rfl) (fun _ h => .inl h)
      refine ⟨by rw [HE.out]; rfl, ?_, hcc⟩
      rw [HS.out]
      refine h.rehead hcc _ rfl rfl rfl (by show n.toNat ≤ _; unfold maxLen; omega) ?_
      have := (h.head.set_ 3 (.bool true)).set_ 4 (.int .i64 ((n.toNat : Nat) : Int))
      rw [show ((n.toNat : Nat) : Int) = n by omega] at this ⊢
      exact this

theorem sector_size : (Try.prog.info? 97).map (·.size) = some 64 := by kernel_rfl
theorem sector_zero : ((Try.prog.info? 97).bind (·.zero)).map (·.cells) = some (bs (List.replicate 64 0)).toArray := by kernel_rfl

def DM.readE (D : DM) (at_ : Int) : Nat := if D.off then 14 else if at_ < 0 ∨ (D.now.length : Int) ≤ at_ then 2 else 0

set_option maxRecDepth 100000 in
set_option maxHeartbeats 400000 in
theorem read_ok {b bf bn : Nat} {ov : Value} {D : DM} (w : World) (h : DiskB w b bf bn ov D) (ho : D.off = false) (k : Nat) (hk : k < D.now.length) :
    Calls Try.prog 66 #[.pointer (some ⟨b, 0, none⟩), .int .i64 k] w fun e w' => ∃ v, e = .returned (.tuple #[v, .int .i64 0]) ∧ OwnB w' w.heap.size 97 v (D.now[k]) ∧ Below w.heap.size w w' := by
  have c1 := h.head.cell 1
  simp at c1
  have hr : D.ready = 0 := by simp [DM.ready, ho]
  have HR := Lib.hid hr
  clear hr ho
  have hm := h.ok.max
  have hl := h.ok.now64 _ (List.getElem_mem hk)
  have hrg := h.range_now k hk
  have hu := Try.underlying97
  have hi : (Try.prog.info? 97).map (·.size) = some (bs D.now[k]).length := by rw [sector_size, bs_length, hl]
  have hi2 : (Try.prog.info? 97).map (·.size) = some (bs D.now[k]).toArray.size := by rw [hi]; simp
  have hz2 : (bs (List.replicate 64 0)).toArray.size = (bs D.now[k]).toArray.size := by simp [bs_length, hl]
  have HL := Lib.hid hl
  have HI := Lib.hid hi
  have HI2 := Lib.hid hi2
  have HZ := Lib.hid hz2
  have HU := Lib.hid hu
  clear hl hi hi2 hz2 hu
  go_enter Try.func66, Try.ntmps66
  go_wp2_with (first
    | (go_at_call 44; refine (ready_calls _ h).mono ?_; rintro e w' ⟨rfl, rfl⟩; rw [HR.out])
    | (with_reducible refine wpList_load_mid rfl 97 (.tmp 29) rfl bn (k * 64) rfl (bs D.now[k]) _ hrg HU.out rfl HI.out ?_)
    | (with_reducible refine wpList_allocZ rfl 97 rfl _ sector_zero ?_)
    | (with_reducible refine wpList_store_fresh rfl 97 (.tmp 7) (.tmp 30) rfl _ _ _ rfl rfl HI2.out HZ.out (bs_all _) ?_))
  go_ret2
  have hm := Own.made w w.heap.size 97 (bs D.now[k]) (Nat.le_refl _) (by rw [bs_length, HL.out]; decide)
  rw [bs_length, HL.out] at hm
  exact ⟨_, rfl, hm, (Below.refl _ _).alloc (Nat.le_refl _) _⟩
end Go.Proofs.Ytmfjhejhbomlpaa
