/- Walks of the log: a text appended. -/
import Derived.Test.YtmfjhejhbomlpaaDe
set_option linter.unusedVariables false
set_option linter.unusedSimpArgs false
namespace Go.Proofs.Ytmfjhejhbomlpaa
open Go.RowKit

theorem fput_big (seq : Nat) (v : Value) (xs : List UInt8) (w : World) (h : RB w v xs) (hs : 1 ≤ seq) (hx : 16384 < xs.length) :
    Calls Try.prog 58 #[.int .u64 seq, v] w fun e w' => e = .returned (.tuple #[.slice none 0 0, .int .i64 5]) ∧ w = w' := by
  obtain ⟨A, c, rfl, hc, hn, hm, hr⟩ := h
  have hs0 : ((seq : Int) == 0) = false := by rw [beq_eq_false_iff_ne]; omega
  go_enter Try.func58, Try.ntmps58
  go_wp2
  go_ret2
  exact ⟨rfl, rfl⟩

section
variable {B bl bd next : Nat} {lv : Value} {vs : List Value} {T : List (List UInt8)} {D : DM} {F : Nat → Prop}
theorem append_dead (w : World) (hl : LogB w B bl bd lv vs next true T) (v : Value) :
    Calls Try.prog 35 #[.pointer (some ⟨bl, 0, none⟩), v] w fun e w' => e = .returned (.int .i64 14) ∧ w = w' := by
  have c0 := hl.c0
  have c3 := hl.c3
  go_enter Try.func35, Try.ntmps35
  go_wp2
  go_ret
  exact ⟨rfl, rfl⟩

theorem append_big (w : World) (hl : LogB w B bl bd lv vs next false T) (hT : T.length ≤ 4096) (v : Value) (t : List UInt8) (hv : RB w v t) (ht : 16384 < t.length) :
    Calls Try.prog 35 #[.pointer (some ⟨bl, 0, none⟩), v] w fun e w' => e = .returned (.int .i64 5) ∧ w = w' := by
  have c0 := hl.c0
  have c1 := hl.c1
  have c3 := hl.c3
  obtain ⟨A, c, hlv, hc⟩ := Own.slice hl.row
  subst hlv
  have hvs := hl.els.1
  have HT := Lib.hid ht
  clear ht
  have hp := fput_big (T.length + 1) _ _ _ hv (by omega) HT.out
  rw [Int.natCast_add, Int.natCast_one] at hp
  have HP := Lib.hid hp
  clear hp
  go_enter Try.func35, Try.ntmps35
  go_wp2_with (go_at_call 58; refine HP.out.mono ?_; rintro e w' ⟨rfl, rfl⟩)
  go_ret
  exact ⟨rfl, rfl⟩

set_option maxRecDepth 100000 in
set_option maxHeartbeats 2000000 in
theorem append_full (w : World) (hl : LogB w B bl bd lv vs next false T) (hd : DiskAt w bd D F) (hT : T.length ≤ 4096) (hnx : next ≤ D.now.length) (v : Value) (t : List UInt8) (hv : RB w v t) (ht : t.length ≤ 16384) (hfull : D.now.length < next + spanN (t.length + 20)) :
    Calls Try.prog 35 #[.pointer (some ⟨bl, 0, none⟩), v] w fun e w' => e = .returned (.int .i64 11) ∧ Below w.heap.size w w' := by
  have c0 := hl.c0
  have c1 := hl.c1
  have c3 := hl.c3
  have hmx := hd.ok.max
  obtain ⟨A, c, hlv, hc⟩ := Own.slice hl.row
  subst hlv
  have hvs := hl.els.1
  have HT := Lib.hid ht
  clear ht
  have hp := fput_calls (T.length + 1) _ _ _ hv (by omega) HT.out
  rw [Int.natCast_add, Int.natCast_one] at hp
  have HP := Lib.hid hp
  clear hp
  go_enter Try.func35, Try.ntmps35
  go_wp2_with (go_at_call 58; refine HP.out.mono ?_; rintro e w1 ⟨v1, rfl, hown1, hb1⟩; obtain ⟨A1, c1', hv1, hc1', hr1⟩ := Own.reads hown1; subst hv1)
  have hl1 := hl.below hb1
  have hd1 : DiskAt w1 bd D F := hd.frame (Changed.of_below (S := fun _ => False) hb1) (fun _ _ h => h)
  have d0 := hl1.c0
  have d2 := hl1.c2
  have hfl : (frameB (T.length + 1) t).length = t.length + 20 := frameB_length _ _
  have hbl : (bs (frameB (T.length + 1) t)).length = t.length + 20 := by rw [bs_length, hfl]
  have hgt : decide (((D.now.length : Int) - (next : Int)) < (spanN (t.length + 20) : Int)) = true := decide_eq_true (by omega)
  have hsb : IntKind.i64.wrap ((D.now.length : Int) - (next : Int)) = (D.now.length : Int) - (next : Int) := IntWalk.i64_in _ (by omega)
  rw [hbl]
  have HSP : Hid (∀ n, Calls Try.prog 52 #[.int .i64 ((t.length + 20 : Nat) : Int)] (w1.drewN n) fun e w' => e = .returned (.int .i64 (spanN (t.length + 20) : Int)) ∧ w1.drewN n = w') := Lib.hid (fun n => span_calls (t.length + 20) (by have := HT.out; omega) _)
  go_quiet (first | (go_at_call 52; exact quiet_left (HSP.out _)) | (go_at_call 48; exact quiet_left (sectors_at _ (DiskAt.drewN hd1 _))))
  go_wp2
  go_ret
  exact ⟨rfl, Below.drewN hb1 _⟩
end
end Go.Proofs.Ytmfjhejhbomlpaa
