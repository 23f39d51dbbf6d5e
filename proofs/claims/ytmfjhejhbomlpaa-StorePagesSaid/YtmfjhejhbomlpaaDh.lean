/- Walks of the log: a text appended, the frame laid. -/
import Derived.Test.YtmfjhejhbomlpaaDg
set_option linter.unusedVariables false
set_option linter.unusedSimpArgs false
namespace Go.Proofs.Ytmfjhejhbomlpaa
open Go.RowKit

section
variable {B bl bd next : Nat} {lv : Value} {vs : List Value} {T : List (List UInt8)} {D : DM} {F : Nat → Prop}

set_option maxRecDepth 100000 in
set_option maxHeartbeats 2000000 in
theorem append_ok (w : World) (hB : B ≤ w.heap.size) (hl : LogB w B bl bd lv vs next false T) (hd : DiskAt w bd D F) (hT : T.length ≤ 4096) (hop : D.opn.length ≤ 900000) (v : Value) (t : List UInt8) (hv : RB w v t) (hva : Away v F) (ht : t.length ≤ 16384) (hfit : next + spanN (t.length + 20) ≤ D.now.length)
    (hok : (layG next (frameB (T.length + 1) t) D).2 = 0) :
    Calls Try.prog 35 #[.pointer (some ⟨bl, 0, none⟩), v] w fun e w' => e = .returned (.int .i64 0) ∧
      ∃ F' lv' vs', LogB w' B bl bd lv' vs' (next + spanN (t.length + 20)) false (T ++ [t]) ∧ DiskAt w' bd (layG next (frameB (T.length + 1) t) D).1 F' ∧ Sub w (lfoot F bl lv) (lfoot F' bl lv') ∧ Changed (lfoot F bl lv) w w' := by
  have c0 := hl.c0
  have c1 := hl.c1
  have c3 := hl.c3
  have hmx := hd.ok.max
  obtain ⟨A, c, hlv, hc⟩ := Own.slice hl.row
  subst hlv
  have hvs := hl.els.1
  rw [hvs] at hl c1 hc
  have HT := Lib.hid ht
  clear ht
  have hp := fput_calls (T.length + 1) _ _ _ hv (by omega) HT.out
  rw [Int.natCast_add, Int.natCast_one] at hp
  have HP := Lib.hid hp
  clear hp
  have hsp1 : 1 ≤ spanN (t.length + 20) := by unfold spanN; omega
  obtain ⟨Y, hY⟩ : ∃ Y, layG next (frameB (T.length + 1) t) D = Y := ⟨_, rfl⟩
  rw [hY] at hok ⊢
  have HY := Lib.hid hY
  have HOK := Lib.hid hok
  clear hY hok
  go_enter Try.func35, Try.ntmps35
  go_wp2_with (go_at_call 58; refine HP.out.mono ?_; rintro e w1 ⟨v1, rfl, hown1, hb1⟩; obtain ⟨A1, c1', hv1, hc1', hr1⟩ := Own.reads hown1; subst hv1)
  have hl1 := hl.below hb1
  have hd1 : DiskAt w1 bd D F := hd.frame (Changed.of_below (S := fun _ => False) hb1) (fun _ _ h => h)
  have d0 := hl1.c0
  have d2 := hl1.c2
  have hfl : (frameB (T.length + 1) t).length = t.length + 20 := frameB_length _ _
  have hbl : (bs (frameB (T.length + 1) t)).length = t.length + 20 := by rw [bs_length, hfl]
  have hgt : decide (((D.now.length : Int) - (next : Int)) < (spanN (t.length + 20) : Int)) = false := decide_eq_false (by omega)
  have hsb : IntKind.i64.wrap ((D.now.length : Int) - (next : Int)) = (D.now.length : Int) - (next : Int) := IntWalk.i64_in _ (by omega)
  have haw1 : Away (.slice A1 (t.length + 20) c1') F := fun k hk hf => by
    rw [hbl] at hown1
    have h1 := Own.lo hown1 k hk
    have h2 := hd.lt k hf
    omega
  have hrb1 : RB w1 (.slice A1 (t.length + 20) c1') (frameB (T.length + 1) t) := by
    have := OwnB.rb hown1 (by rw [hfl]; have := HT.out; omega)
    rwa [hbl] at this
  rw [hbl]
  have HSP : Hid (∀ n, Calls Try.prog 52 #[.int .i64 ((t.length + 20 : Nat) : Int)] (w1.drewN n) fun e w' => e = .returned (.int .i64 (spanN (t.length + 20) : Int)) ∧ w1.drewN n = w') := Lib.hid (fun n => span_calls (t.length + 20) (by have := HT.out; omega) _)
  go_quiet (first | (go_at_call 52; exact quiet_left (HSP.out _)) | (go_at_call 48; exact quiet_left (sectors_at _ (DiskAt.drewN hd1 _))))
  have hl2 := hl1.changed ((Changed.refl (fun _ => False) _).drewN nq) (NoTy.none _ _) (NoTy.none _ _) (NoTy.none _ _)
  have hd2 := DiskAt.drewN hd1 nq
  have hb2 := Below.drewN hb1 nq
  have hrb2 := RB.drewN hrb1 nq
  generalize w1.drewN nq = w2 at *
  have hlay := lay_calls w2 hl2 hd2 hop _ _ hrb2 haw1 (by rw [hfl]; omega) (by rw [hfl]; exact hfit)
  rw [HY.out] at hlay
  have HLAY := Lib.hid hlay
  clear hlay hl1 hd1 hb1 hrb1 d0 d2 hown1 hgt hsb hbl hr1
  go_wp2_with (go_at_call 59; refine HLAY.out.mono ?_; rintro e w3 ⟨rfl, F3, hd3, hs3, hc3⟩; have hl3 := hl2.changed hc3 (hd2.noTy _ (by decide) (by decide) (by decide)) (hd2.noTy _ (by decide) (by decide) (by decide)) (hd2.noTy _ (by decide) (by decide) (by decide)); rw [HOK.out])
  have hch3 := (Changed.of_below (S := F) hb2).trans hc3 (fun k hk => .inl hk)
  have hs3' := hs3.low hb2.size
  have hsz3 := hch3.size
  have hrbt : RB w3.drew v t := RB.drewN (hv.frame hch3 hva) 1
  have hl3d := hl3.changed ((Changed.refl (fun _ => False) _).drew) (NoTy.none _ _) (NoTy.none _ _) (NoTy.none _ _)
  clear hc3 hs3 hl2 hd2 hb2 hrb2 hl c0 c1 c3
  have e1 := hl3d.c1
  have f1 := hl3d.head.frozen 1
  refine wp_region_E (S := fun w' => w'.cell? ⟨bl, 1, none⟩ = some (.slice A T.length c) ∧ w'.frozen? ⟨bl, 1, none⟩ = false) (late := [11]) (by kernel_rfl) ⟨e1, f1⟩ (fun hHeld => ?_)
  refine wpAnyE_take (i := 0) (v := ?_) rfl (by kernel_rfl) (fun _ _ _ h => h) (Or.inl ⟨by rfl, ?_⟩) (by assumption) ?_
  rotate_left
  · (intro w hSw; (try dsimp only at hSw); go_simp; try with_reducible rfl)
  try simp only [Act.put, List.setIfInBounds_toArray, List.set_cons_zero, List.set_cons_succ]
  refine wpAnyE_take (i := 1) (v := ?_) rfl (by kernel_rfl) (fun _ _ _ h => h) (Or.inl ⟨by rfl, ?_⟩) (by assumption) ?_
  rotate_left
  · (intro w hSw; (try dsimp only at hSw); go_simp; try with_reducible rfl)
  try simp only [Act.put, List.setIfInBounds_toArray, List.set_cons_zero, List.set_cons_succ]
  refine wpAnyE_take (i := 2) (v := ?_) rfl (by kernel_rfl) (fun _ _ _ h => h) (Or.inl ⟨by rfl, ?_⟩) (by assumption) ?_
  rotate_left
  · (intro w hSw; (try dsimp only at hSw); go_simp; try with_reducible rfl)
  try simp only [Act.put, List.setIfInBounds_toArray, List.set_cons_zero, List.set_cons_succ]
  refine wpAnyE_take (i := 3) (v := ?_) rfl (by kernel_rfl) (fun _ _ _ h => h) (Or.inl ⟨by rfl, ?_⟩) (by assumption) ?_
  rotate_left
  · (intro w hSw; (try dsimp only at hSw); go_simp; try with_reducible rfl)
  try simp only [Act.put, List.setIfInBounds_toArray, List.set_cons_zero, List.set_cons_succ]
  refine wpAnyE_take (i := 4) (v := ?_) rfl (by kernel_rfl) (fun _ _ _ h => h) (Or.inl ⟨by rfl, ?_⟩) (by assumption) ?_
  rotate_left
  · (intro w hSw; (try dsimp only at hSw); go_simp; try with_reducible rfl)
  try simp only [Act.put, List.setIfInBounds_toArray, List.set_cons_zero, List.set_cons_succ]
  refine wpAnyE_take (i := 5) (v := ?_) rfl (by kernel_rfl) (fun _ _ _ h => h) (Or.inl ⟨by rfl, ?_⟩) (by assumption) ?_
  rotate_left
  · (intro w hSw; (try dsimp only at hSw); go_simp; try with_reducible rfl)
  try simp only [Act.put, List.setIfInBounds_toArray, List.set_cons_zero, List.set_cons_succ]
  refine wpAnyE_step (i := 6) rfl (by kernel_rfl) (fun K hK => ?_)
  rw [if_pos (by rfl)]
  (go_simp; go_at_call 47; refine (clone_calls _ _ _ hrbt).mono ?_; rintro e w5 ⟨v5, rfl, hown5, hb5⟩; obtain ⟨A5, c5, hv5, hc5, hr5⟩ := Own.reads hown5; subst hv5; have hl5 := hl3d.below hb5)
  refine hK _ _ ⟨hl5.c1, hl5.head.frozen 1⟩ (fun hHeld => ?_)
  clear hK K
  try simp only [Act.put, List.setIfInBounds_toArray, List.set_cons_zero, List.set_cons_succ]
  refine wpAnyE_step (i := 7) rfl (by kernel_rfl) (fun K hK => ?_)
  rw [if_pos (by rfl)]
  go_simp
  refine hK _ _ ⟨(World.cell?_alloc_lt _ _ _ hl5.head.lt).trans hl5.c1, (frozen_alloc_lt _ _ _ hl5.head.lt).trans (hl5.head.frozen 1)⟩ (fun hHeld => ?_)
  clear hK K
  try simp only [Act.put, List.setIfInBounds_toArray, List.set_cons_zero, List.set_cons_succ]
  refine wpAnyE_step (i := 8) rfl (by kernel_rfl) (fun K hK => ?_)
  rw [if_pos (by rfl)]
  (refine wp_appendS (w0 := w3.drew) (W := w5) (.tmp 63) (.tmp 66) 75 41 _ 1 24 rfl Try.underlying75 row_info rfl (by omega) (by omega) (.slice A T.length c) T.length vs [Value.slice A5 (bs t).length c5] rfl rfl (by simp [Value.oneCell']) rfl (show w5.ownsRow _ _ _ _ _ _ from hvs ▸ hl5.row) (Below.mono hb5 (Nat.le_trans hB hsz3)) (Nat.le_trans (Nat.le_trans hB hsz3) hb5.size) (by omega) ?_; intro v6 w6 hown6 hb6 hg6 hat6; obtain ⟨g6, cp6, hv6, hgl6, hgl6'⟩ := hown6.form (by omega); subst hv6; have hh6 := hl5.head.grown hg6 (fun e => own_blk_ne hl5.row hl5.head (by decide) e.symm))
  refine hK _ _ ⟨hh6.cell 1, hh6.frozen 1⟩ (fun hHeld => ?_)
  clear hK K
  try simp only [Act.put, List.setIfInBounds_toArray, List.set_cons_zero, List.set_cons_succ]
  refine wpAnyE_step (i := 9) rfl (by kernel_rfl) (fun K hK => ?_)
  rw [if_pos (by rfl)]
  go_simp
  refine hK _ _ (by assumption) (fun hHeld => ?_)
  clear hK K
  try simp only [Act.put, List.setIfInBounds_toArray, List.set_cons_zero, List.set_cons_succ]
  refine wpAnyE_step (i := 10) rfl (by kernel_rfl) (fun K hK => ?_)
  rw [if_pos (by rfl)]
  go_simp
  refine hK _ _ (by assumption) (fun hHeld => ?_)
  clear hK K
  try simp only [Act.put, List.setIfInBounds_toArray, List.set_cons_zero, List.set_cons_succ]
  refine wpAnyE_late (i := 11) rfl (by kernel_rfl) (by kernel_rfl) (fun K hK => ?_)
  rw [if_pos (by rfl)]
  go_simp
  refine hK _ _ ?_
  clear hK K
  try simp only [Act.put, List.setIfInBounds_toArray, List.set_cons_zero, List.set_cons_succ]
  refine wpAnyE_done (by kernel_rfl) ?_ _
  go_wp2
  have hown6' : Own w6 B 41 (.slice (some ⟨g6, 0, none⟩) (T.length + 1) cp6) (vs ++ [Value.slice A5 (bs t).length c5]) := Own.of _ hown6
  obtain ⟨hp1, hp2⟩ := LogB.push hl5 (Own.low hown5 (Nat.le_trans hB hsz3)) hg6 hown6' (next + spanN (t.length + 20))
  have hh7 : Blk (w6.setCell ⟨bl, 1, none⟩ (.slice (some ⟨g6, 0, none⟩) (T.length + 1) cp6)).drew bl 102 #[.pointer (some ⟨bd, 0, none⟩), .slice (some ⟨g6, 0, none⟩) (T.length + 1) cp6, .int .i64 (next : Int), .bool false] := by simpa using (hh6.set_ 1 (.slice (some ⟨g6, 0, none⟩) (T.length + 1) cp6)).drew
  have hnl : next + spanN (t.length + 20) ≤ 4096 := by omega
  have hw : IntKind.i64.wrap ((next : Int) + (spanN (t.length + 20) : Int)) = ((next + spanN (t.length + 20) : Nat) : Int) := by
    rw [IntWalk.i64_in _ (by omega), Int.natCast_add]
  rw [← hw] at hp1 hp2
  have HW := Lib.hid hw
  clear hw
  refine wp_region_E (S := fun w' => w'.cell? ⟨bl, 2, none⟩ = some (.int .i64 (next : Int)) ∧ w'.frozen? ⟨bl, 2, none⟩ = false) (late := [10]) (by kernel_rfl) ⟨hh7.cell 2, hh7.frozen 2⟩ (fun hHeld => ?_)
  refine wpAnyE_take (i := 0) (v := ?_) rfl (by kernel_rfl) (fun _ _ _ h => h) (Or.inl ⟨by rfl, ?_⟩) (by assumption) ?_
  rotate_left
  · (intro w hSw; (try dsimp only at hSw); go_simp; try with_reducible rfl)
  try simp only [Act.put, List.setIfInBounds_toArray, List.set_cons_zero, List.set_cons_succ]
  refine wpAnyE_take (i := 1) (v := ?_) rfl (by kernel_rfl) (fun _ _ _ h => h) (Or.inl ⟨by rfl, ?_⟩) (by assumption) ?_
  rotate_left
  · (intro w hSw; (try dsimp only at hSw); go_simp; try with_reducible rfl)
  try simp only [Act.put, List.setIfInBounds_toArray, List.set_cons_zero, List.set_cons_succ]
  refine wpAnyE_take (i := 2) (v := ?_) rfl (by kernel_rfl) (fun _ _ _ h => h) (Or.inl ⟨by rfl, ?_⟩) (by assumption) ?_
  rotate_left
  · (intro w hSw; (try dsimp only at hSw); go_simp; try with_reducible rfl)
  try simp only [Act.put, List.setIfInBounds_toArray, List.set_cons_zero, List.set_cons_succ]
  refine wpAnyE_take (i := 3) (v := ?_) rfl (by kernel_rfl) (fun _ _ _ h => h) (Or.inl ⟨by rfl, ?_⟩) (by assumption) ?_
  rotate_left
  · (intro w hSw; (try dsimp only at hSw); go_simp; try with_reducible rfl)
  try simp only [Act.put, List.setIfInBounds_toArray, List.set_cons_zero, List.set_cons_succ]
  refine wpAnyE_take (i := 4) (v := ?_) rfl (by kernel_rfl) (fun _ _ _ h => h) (Or.inl ⟨by rfl, ?_⟩) (by assumption) ?_
  rotate_left
  · (intro w hSw; (try dsimp only at hSw); go_simp; try with_reducible rfl)
  try simp only [Act.put, List.setIfInBounds_toArray, List.set_cons_zero, List.set_cons_succ]
  refine wpAnyE_take (i := 5) (v := ?_) rfl (by kernel_rfl) (fun _ _ _ h => h) (Or.inl ⟨by rfl, ?_⟩) (by assumption) ?_
  rotate_left
  · (intro w hSw; (try dsimp only at hSw); go_simp; try with_reducible rfl)
  try simp only [Act.put, List.setIfInBounds_toArray, List.set_cons_zero, List.set_cons_succ]
  refine wpAnyE_step (i := 6) rfl (by kernel_rfl) (fun K hK => ?_)
  rw [if_pos (by rfl)]
  (go_simp; go_at_call 52; refine (span_calls (t.length + 20) (by have := HT.out; omega) _).mono ?_; rintro e w' ⟨rfl, rfl⟩)
  refine hK _ _ hHeld (fun hHeld => ?_)
  clear hK K
  try simp only [Act.put, List.setIfInBounds_toArray, List.set_cons_zero, List.set_cons_succ]
  refine wpAnyE_take (i := 7) (v := ?_) rfl (by kernel_rfl) (fun _ _ _ h => h) (Or.inl ⟨by rfl, ?_⟩) (by assumption) ?_
  rotate_left
  · (intro w hSw; (try dsimp only at hSw); go_simp; try with_reducible rfl)
  try simp only [Act.put, List.setIfInBounds_toArray, List.set_cons_zero, List.set_cons_succ]
  refine wpAnyE_step (i := 8) rfl (by kernel_rfl) (fun K hK => ?_)
  rw [if_pos (by rfl)]
  go_simp
  refine hK _ _ (by assumption) (fun hHeld => ?_)
  clear hK K
  try simp only [Act.put, List.setIfInBounds_toArray, List.set_cons_zero, List.set_cons_succ]
  refine wpAnyE_step (i := 9) rfl (by kernel_rfl) (fun K hK => ?_)
  rw [if_pos (by rfl)]
  go_simp
  refine hK _ _ (by assumption) (fun hHeld => ?_)
  clear hK K
  try simp only [Act.put, List.setIfInBounds_toArray, List.set_cons_zero, List.set_cons_succ]
  refine wpAnyE_late (i := 10) rfl (by kernel_rfl) (by kernel_rfl) (fun K hK => ?_)
  rw [if_pos (by rfl)]
  go_simp
  refine hK _ _ ?_
  clear hK K
  try simp only [Act.put, List.setIfInBounds_toArray, List.set_cons_zero, List.set_cons_succ]
  refine wpAnyE_done (by kernel_rfl) ?_ _
  go_wp2
  go_ret
  have hc35 : Changed F w w5 := hch3.drew.trans (Changed.of_below (S := fun _ => False) hb5) (fun _ h => h.elim)
  have hd5 : DiskAt w5 bd Y.1 F3 := hd3.frame ((Changed.refl (fun _ => False) _).drew.trans (Changed.of_below (S := fun _ => False) hb5) (fun _ h => h.elim)) (fun _ _ h => h)
  have he : (Value.slice A vs.length c).ownBlock = (Value.slice A T.length c).ownBlock := by rw [hvs]
  refine ⟨rfl, F3, _, _, hp1, hd5.frame hp2 (fun k hk hs => ?_), fun k hk => ?_, (hc35.mono (fun k hk => .inl (.inl hk))).trans hp2 (fun k hk => .inl ?_)⟩
  · rcases hs with rfl | hs
    · rcases hd5.ty k hk with h | h | h <;> exact absurd (h.uniq hl5.head.ty) (by decide)
    · rcases hd5.ty k hk with h | h | h <;> exact absurd (h.uniq (ownsRow_ty hl5.row k hs.symm)) (by decide)
  · rcases hk with hk | rfl | hk
    · rcases hs3' k hk with h | h
      · exact .inl (.inl h)
      · exact .inr h
    · exact .inl (.inr (.inl rfl))
    · rcases hat6 with h | h
      · exact .inl (.inr (.inr (he.trans (h.symm.trans hk))))
      · rw [h] at hk
        injection hk with hk
        exact .inr (by have := hc35.size; omega)
  · rcases hk with rfl | hk
    · exact .inr (.inl rfl)
    · exact .inr (.inr (he.trans hk.symm))
end
end Go.Proofs.Ytmfjhejhbomlpaa
