/- Walks of the log: a text appended, the frame laid or not. -/
import Derived.Test.YtmfjhejhbomlpaaDf
set_option linter.unusedVariables false
set_option linter.unusedSimpArgs false
namespace Go.Proofs.Ytmfjhejhbomlpaa
open Go.RowKit

/-- The blocks that a log writes to. -/
def lfoot (F : Nat → Prop) (bl : Nat) (lv : Value) (k : Nat) : Prop := F k ∨ k = bl ∨ lv.ownBlock = some k

section
variable {B bl bd next : Nat} {lv : Value} {vs : List Value} {T : List (List UInt8)} {D : DM} {F : Nat → Prop}

set_option maxRecDepth 100000 in
set_option maxHeartbeats 2000000 in
theorem append_fail (w : World) (hl : LogB w B bl bd lv vs next false T) (hd : DiskAt w bd D F) (hT : T.length ≤ 4096) (hop : D.opn.length ≤ 900000) (v : Value) (t : List UInt8) (hv : RB w v t) (ht : t.length ≤ 16384) (hfit : next + spanN (t.length + 20) ≤ D.now.length)
    (hbad : (layG next (frameB (T.length + 1) t) D).2 ≠ 0) :
    Calls Try.prog 35 #[.pointer (some ⟨bl, 0, none⟩), v] w fun e w' => e = .returned (.int .i64 ((layG next (frameB (T.length + 1) t) D).2 : Int)) ∧
      ∃ F', LogB w' B bl bd lv vs next true T ∧ DiskAt w' bd (layG next (frameB (T.length + 1) t) D).1 F' ∧ Sub w F F' ∧ Changed (lfoot F bl lv) w w' := by
  have c0 := hl.c0
  have c1 := hl.c1
  have c3 := hl.c3
  have hmx := hd.ok.max
  obtain ⟨A, c, hlv, hc⟩ := Own.slice hl.row
  subst hlv
  have hvs := hl.els.1
  have HT := Lib.hid ht
  clear ht
  have hp := fput_calls (T.length + 1) _ _ _ hv (by omega) HT.out
  rw [Int.natCast_add, Int.natCast_one] at hp
  have HP := Lib.hid hp
  clear hp
  have hsp1 : 1 ≤ spanN (t.length + 20) := by unfold spanN; omega
  obtain ⟨Y, hY⟩ : ∃ Y, layG next (frameB (T.length + 1) t) D = Y := ⟨_, rfl⟩
  rw [hY] at hbad ⊢
  have HY := Lib.hid hY
  have HBAD := Lib.hid hbad
  clear hY hbad
  go_enter Try.func35, Try.ntmps35
  go_wp2_with (go_at_call 58; refine HP.out.mono ?_; rintro e w1 ⟨v1, rfl, hown1, hb1⟩; obtain ⟨A1, c1', hv1, hc1', hr1⟩ := Own.reads hown1; subst hv1)
  have hl1 := hl.below hb1
  have hd1 : DiskAt w1 bd D F := hd.frame (Changed.of_below (S := fun _ => False) hb1) (fun _ _ h => h)
  have d0 := hl1.c0
  have d2 := hl1.c2
  have hfl : (frameB (T.length + 1) t).length = t.length + 20 := frameB_length _ _
  have hbl : (bs (frameB (T.length + 1) t)).length = t.length + 20 := by rw [bs_length, hfl]
  have hgt : decide (((D.now.length : Int) - (next : Int)) < (spanN (t.length + 20) : Int)) = false := decide_eq_false (by omega)
  have hsb : IntKind.i64.wrap ((D.now.length : Int) - (next : Int)) = (D.now.length : Int) - (next : Int) := IntWalk.i64_in _ (by omega)
  have haw1 : Away (.slice A1 (t.length + 20) c1') F := fun k hk hf => by
    rw [hbl] at hown1
    have h1 := Own.lo hown1 k hk
    have h2 := hd.lt k hf
    omega
  have hrb1 : RB w1 (.slice A1 (t.length + 20) c1') (frameB (T.length + 1) t) := by
    have := OwnB.rb hown1 (by rw [hfl]; have := HT.out; omega)
    rwa [hbl] at this
  rw [hbl]
  have HSP : Hid (∀ n, Calls Try.prog 52 #[.int .i64 ((t.length + 20 : Nat) : Int)] (w1.drewN n) fun e w' => e = .returned (.int .i64 (spanN (t.length + 20) : Int)) ∧ w1.drewN n = w') := Lib.hid (fun n => span_calls (t.length + 20) (by have := HT.out; omega) _)
  go_quiet (first | (go_at_call 52; exact quiet_left (HSP.out _)) | (go_at_call 48; exact quiet_left (sectors_at _ (DiskAt.drewN hd1 _))))
  have hl2 := hl1.changed ((Changed.refl (fun _ => False) _).drewN nq) (NoTy.none _ _) (NoTy.none _ _) (NoTy.none _ _)
  have hd2 := DiskAt.drewN hd1 nq
  have hb2 := Below.drewN hb1 nq
  have hrb2 := RB.drewN hrb1 nq
  generalize w1.drewN nq = w2 at *
  have hlay := lay_calls w2 hl2 hd2 hop _ _ hrb2 haw1 (by rw [hfl]; omega) (by rw [hfl]; exact hfit)
  rw [HY.out] at hlay
  have HLAY := Lib.hid hlay
  have hyb : ((Y.2 : Int) != 0) = true := by rw [bne_iff_ne]; have := HBAD.out; omega
  clear hlay hl1 hd1 hb1 hrb1 d0 d2 hown1 hgt hsb hfl hbl hr1
  go_wp2_with (go_at_call 59; refine HLAY.out.mono ?_; rintro e w3 ⟨rfl, F3, hd3, hs3, hc3⟩; have hl3 := hl2.changed hc3 (hd2.noTy _ (by decide) (by decide) (by decide)) (hd2.noTy _ (by decide) (by decide) (by decide)) (hd2.noTy _ (by decide) (by decide) (by decide)); have e3 := hl3.c3; have f3 := hl3.head.frozen 3)
  go_ret
  have hc4 : Changed (· = bl) w3 (w3.setCell ⟨bl, 3, none⟩ (.bool true)) := Changed.setCell (S := (· = bl)) w3 ⟨bl, 3, none⟩ _ rfl
  refine ⟨rfl, F3, ⟨by simpa using hl3.head.set_ 3 (.bool true), hl3.row.changed hc4 (NoTy.one hl3.head.ty (by decide)), hl3.els.changed hc4 (NoTy.one hl3.head.ty (by decide))⟩, ?_, hs3.low hb2.size, ?_⟩
  · exact hd3.frame hc4 (fun k hk e => by subst e; rcases hd3.ty k hk with h | h | h <;> exact absurd (h.uniq hl3.head.ty) (by decide))
  · exact ((Changed.of_below hb2).trans hc3 (fun k hk => .inl (.inl hk))).trans hc4 (fun k hk => .inl (.inr (.inl hk)))
end
end Go.Proofs.Ytmfjhejhbomlpaa
