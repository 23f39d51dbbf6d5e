/- Walks of the log: a frame laid. -/
import Derived.Test.YtmfjhejhbomlpaaDd
set_option linter.unusedVariables false
set_option linter.unusedSimpArgs false
namespace Go.Proofs.Ytmfjhejhbomlpaa
open Go.RowKit

theorem RB.recap {w : World} {A : Option Addr} {n c c' : Nat} {xs : List UInt8} (h : RB w (.slice A n c) xs) (h1 : n ≤ c') (h2 : c' ≤ maxLen) : RB w (.slice A n c') xs := by
  obtain ⟨A', c0, e, hc, hn, hm, hr⟩ := h
  injection e with e1 e2 e3
  subst e1 e2 e3
  exact ⟨_, c', rfl, h1, hn, h2, hr⟩
theorem Away.sub {w : World} {v : Value} {F F' : Nat → Prop} (h : Away v F) (hlt : ∀ k, v.ownBlock = some k → k < w.heap.size) (hs : Sub w F F') : Away v F' := fun k hk hf => by
  rcases hs k hf with h1 | h1
  · exact h k hk h1
  · have := hlt k hk; omega

theorem DiskAt.drew {w : World} {b : Nat} {D : DM} {F : Nat → Prop} (h : DiskAt w b D F) : DiskAt w.drew b D F := h.frame ((Changed.refl (fun _ => False) _).drew) (fun _ _ h => h)
theorem Away.cut {F : Nat → Prop} {ad : Addr} {n c : Nat} (h : Away (.slice (some ad) n c) F) (k n' c' : Nat) : Away (.slice (some (ad.add k)) n' c') F := fun q hq => h q (by
  simp only [Value.ownBlock, Option.some.injEq] at hq ⊢
  rw [block_of_add] at hq
  exact hq)
/-- The sectors behind the first one: m of them are still to be written. -/
def layW (next : Nat) (f : List UInt8) : Nat → DM → DM × Nat
  | 0, D => (D, 0)
  | m + 1, D => if (D.write1 (next + (spanN f.length - (m + 1))) ((f.drop (64 * (spanN f.length - (m + 1)))).take 64)).2 = 0 then layW next f m (D.write1 (next + (spanN f.length - (m + 1))) ((f.drop (64 * (spanN f.length - (m + 1)))).take 64)).1
    else ((D.write1 (next + (spanN f.length - (m + 1))) ((f.drop (64 * (spanN f.length - (m + 1)))).take 64)).1, (D.write1 (next + (spanN f.length - (m + 1))) ((f.drop (64 * (spanN f.length - (m + 1)))).take 64)).2)
def layEnd (next : Nat) (f : List UInt8) (D : DM) : DM × Nat := if (D.write1 next (f.take 64)).2 = 0 then (D.write1 next (f.take 64)).1.sync1 else ((D.write1 next (f.take 64)).1, (D.write1 next (f.take 64)).2)
def layMid (next : Nat) (f : List UInt8) (D : DM) : DM × Nat := if f.length > 64 then (if D.sync1.2 = 0 then layEnd next f D.sync1.1 else (D.sync1.1, D.sync1.2)) else layEnd next f D
def layG (next : Nat) (f : List UInt8) (D : DM) : DM × Nat := if (layW next f (spanN f.length - 1) D).2 = 0 then layMid next f (layW next f (spanN f.length - 1) D).1 else ((layW next f (spanN f.length - 1) D).1, (layW next f (spanN f.length - 1) D).2)
theorem DM.sync1_length (D : DM) : D.sync1.1.now.length = D.now.length := by
  unfold DM.sync1
  split
  · rfl
  · split
    · simp [DM.stepped_now]
    · simp [DM.sync, DM.stepped_now]
theorem DM.sync1_opn (D : DM) : D.sync1.1.opn.length ≤ D.opn.length := by
  unfold DM.sync1
  split
  · simp
  · split
    · simp [DM.stepped_opn]
    · simp [DM.sync]

set_option maxRecDepth 100000 in
set_option maxHeartbeats 4000000 in
theorem lay_calls {B bl bd next : Nat} {lv : Value} {vs : List Value} {dead : Bool} {T : List (List UInt8)} {D : DM} {F : Nat → Prop} (w : World) (hl : LogB w B bl bd lv vs next dead T) (hd : DiskAt w bd D F) (hop : D.opn.length ≤ 900000)
    (fv : Value) (f : List UInt8) (hv : RB w fv f) (haw : Away fv F) (hf1 : 1 ≤ f.length) (hfit : next + spanN f.length ≤ D.now.length) :
    Calls Try.prog 59 #[.pointer (some ⟨bl, 0, none⟩), fv] w fun e w' => e = .returned (.int .i64 ((layG next f D).2 : Int)) ∧ ∃ F', DiskAt w' bd (layG next f D).1 F' ∧ Sub w F F' ∧ Changed F w w' := by
  have hmx := hd.ok.max
  have hv0 := hv
  obtain ⟨A, c, rfl, hcc, hfn, hm, hr⟩ := hv
  obtain ⟨ad, rfl, hadb, _⟩ := hr.2 hf1
  have haw' : ∀ k, (Value.slice (some ad) f.length c).ownBlock = some k → k < w.heap.size := fun k hk => by
    have : ad.block = k := by simpa [Value.ownBlock] using hk
    omega
  have HAW := Lib.hid haw'
  obtain ⟨Y, hY⟩ : ∃ Y, layG next f D = Y := ⟨_, rfl⟩
  rw [hY]
  have HY := Lib.hid hY
  have HOP := Lib.hid hop
  have hsp : spanN f.length = (f.length + 63) / 64 := rfl
  unfold maxLen at hm
  have hfl : f.length ≤ 1000000 := by unfold spanN at hfit; omega
  clear hY hop haw'
  go_enter Try.func59, Try.ntmps59
  go_wp2
  go_loopw [5] (fun i wr => ∃ (m k : Nat) (Dc : DM) (Fc : Nat → Prop), k + m = spanN f.length ∧ 1 ≤ k ∧ i = .int .i64 (k : Int) ∧ DiskAt wr bd Dc Fc ∧ Sub w F Fc ∧ Changed F w wr ∧ Hid ((if (layW next f m Dc).2 = 0 then layMid next f (layW next f m Dc).1 else ((layW next f m Dc).1, (layW next f m Dc).2)) = Y ∧ Dc.now.length = D.now.length ∧ Dc.opn.length + m ≤ 910000)) (fun i _ => spanN f.length - (intOf i).toNat)
  case atStart => exact ⟨spanN f.length - 1, 1, D, F, by omega, by omega, rfl, hd, Sub.refl _ _, Changed.refl _ _, Lib.hid ⟨HY.out, rfl, by have := HOP.out; omega⟩⟩
  case round =>
    obtain ⟨m, k, Dc, Fc, hkm, hk1, rfl, hdc, hsb, hch, HW⟩ := hrel
    have hlog : LogB wr B bl bd lv vs next dead T := hl.changed hch (hd.noTy _ (by decide) (by decide) (by decide)) (hd.noTy _ (by decide) (by decide) (by decide)) (hd.noTy _ (by decide) (by decide) (by decide))
    have hrb : RB wr (.slice (some ad) f.length c) f := hv0.frame hch haw
    have hawc : Away (.slice (some ad) f.length c) Fc := haw.sub HAW.out hsb
    have c0 := hlog.c0
    have c2 := hlog.c2
    rcases m with _ | m
    · have hW := HW.1
      simp only [layW, if_true] at hW
      by_cases h64 : f.length > 64
      · rcases DM.sync1_two Dc with hsy | hsy
        · have HSY := Lib.hid hsy
          have hW5 : layEnd next f Dc.sync1.1 = Y := by
            rw [layMid, if_pos h64, if_pos hsy] at hW
            exact hW
          have HWW5 := Lib.hid hW5
          have hopc : Dc.opn.length ≤ 1000000 := by have := HW.2.2; omega
          have HOPC := Lib.hid hopc
          clear hsy hW5 hopc hW
          go_wp2_with (first
            | (go_at_call 52; refine (span_calls f.length (by omega) _).mono ?_; rintro e w' ⟨rfl, rfl⟩)
            | (go_at_call 71; refine (sync_at _ hdc HOPC.out).mono ?_; rintro e w5 ⟨rfl, F5, hd5, hs5, hc5⟩; rw [HSY.out]))
          · have hch5 := hch.trans hc5 (fun q hq => hsb q hq)
            have hs5' := hsb.trans hs5 hch.size
            have hrb5 : RB w5 (.slice (some ad) f.length c) f := hv0.frame hch5 haw
            have hcut : RB w5.drew (.slice (some ad) 64 64) (f.take 64) := by
              exact RB.drewN (RB.recap (c' := 64) (RB.take (k := 64) (hrb5) (by omega)) (Nat.le_refl _) (by unfold maxLen; omega)) 1
            have hawv : Away (.slice (some ad) 64 64) F5 := haw.sub HAW.out hs5'
            have HWA : Hid (Calls Try.prog 70 #[.pointer (some ⟨bd, 0, none⟩), .int .i64 (next : Int), .slice (some ad) 64 64] w5.drew fun e w' => e = .returned (.int .i64 ((Dc.sync1.1.write1 next (f.take 64)).2 : Int)) ∧ ∃ F', DiskAt w' bd (Dc.sync1.1.write1 next (f.take 64)).1 F' ∧ Sub w5.drew F5 F' ∧ Changed F5 w5.drew w') :=
              Lib.hid (write_at _ hd5.drew next (by have := ((DM.sync1_length Dc).trans HW.2.1); omega) (by have := (show Dc.sync1.1.opn.length ≤ 910000 by have := DM.sync1_opn Dc; have := HW.2.2; omega); omega) _ _ hcut hawv (by rw [List.length_take]; omega))
            have hlogE : LogB w5.drew B bl bd lv vs next dead T := hl.changed (hch5).drew (hd.noTy _ (by decide) (by decide) (by decide)) (hd.noTy _ (by decide) (by decide) (by decide)) (hd.noTy _ (by decide) (by decide) (by decide))
            refine wp_region_E (S := fun w' => w'.cell? ⟨bl, 0, none⟩ = some (.pointer (some ⟨bd, 0, none⟩)) ∧ w'.cell? ⟨bl, 2, none⟩ = some (.int .i64 (next : Int))) (late := []) (by kernel_rfl) ⟨hlogE.c0, hlogE.c2⟩ (fun hHeld => ?_)
            refine wpAnyE_take (i := 0) (v := ?_) rfl (by kernel_rfl) (fun _ _ _ h => h) (Or.inl ⟨by rfl, ?_⟩) (by assumption) ?_
            rotate_left
            · (intro w hSw; (try dsimp only at hSw); go_simp; try with_reducible rfl)
            try simp only [Act.put, List.setIfInBounds_toArray, List.set_cons_zero, List.set_cons_succ]
            refine wpAnyE_take (i := 1) (v := ?_) rfl (by kernel_rfl) (fun _ _ _ h => h) (Or.inl ⟨by rfl, ?_⟩) (by assumption) ?_
            rotate_left
            · (intro w hSw; (try dsimp only at hSw); go_simp; try with_reducible rfl)
            try simp only [Act.put, List.setIfInBounds_toArray, List.set_cons_zero, List.set_cons_succ]
            refine wpAnyE_take (i := 2) (v := ?_) rfl (by kernel_rfl) (fun _ _ _ h => h) (Or.inl ⟨by rfl, ?_⟩) (by assumption) ?_
            rotate_left
            · (intro w hSw; (try dsimp only at hSw); go_simp; try with_reducible rfl)
            try simp only [Act.put, List.setIfInBounds_toArray, List.set_cons_zero, List.set_cons_succ]
            refine wpAnyE_take (i := 3) (v := ?_) rfl (by kernel_rfl) (fun _ _ _ h => h) (Or.inl ⟨by rfl, ?_⟩) (by assumption) ?_
            rotate_left
            · (intro w hSw; (try dsimp only at hSw); go_simp; try with_reducible rfl)
            try simp only [Act.put, List.setIfInBounds_toArray, List.set_cons_zero, List.set_cons_succ]
            refine wpAnyE_take (i := 4) (v := ?_) rfl (by kernel_rfl) (fun _ _ _ h => h) (Or.inl ⟨by rfl, ?_⟩) (by assumption) ?_
            rotate_left
            · (intro w hSw; (try dsimp only at hSw); go_simp; try with_reducible rfl)
            try simp only [Act.put, List.setIfInBounds_toArray, List.set_cons_zero, List.set_cons_succ]
            refine wpAnyE_take (i := 5) (v := ?_) rfl (by kernel_rfl) (fun _ _ _ h => h) (Or.inl ⟨by rfl, ?_⟩) (by assumption) ?_
            rotate_left
            · (intro w hSw; (try dsimp only at hSw); go_simp; try with_reducible rfl)
            try simp only [Act.put, List.setIfInBounds_toArray, List.set_cons_zero, List.set_cons_succ]
            refine wpAnyE_take (i := 6) (v := ?_) rfl (by kernel_rfl) (fun _ _ _ h => h) (Or.inl ⟨by rfl, ?_⟩) (by assumption) ?_
            rotate_left
            · (intro w hSw; (try dsimp only at hSw); go_simp; try with_reducible rfl)
            try simp only [Act.put, List.setIfInBounds_toArray, List.set_cons_zero, List.set_cons_succ]
            refine wpAnyE_take (i := 7) (v := ?_) rfl (by kernel_rfl) (fun _ _ _ h => h) (Or.inl ⟨by rfl, ?_⟩) (by assumption) ?_
            rotate_left
            · (intro w hSw; (try dsimp only at hSw); go_simp; try with_reducible rfl)
            try simp only [Act.put, List.setIfInBounds_toArray, List.set_cons_zero, List.set_cons_succ]
            refine wpAnyE_take (i := 8) (v := ?_) rfl (by kernel_rfl) (fun _ _ _ h => h) (Or.inl ⟨by rfl, ?_⟩) (by assumption) ?_
            rotate_left
            · (intro w hSw; (try dsimp only at hSw); go_simp; try with_reducible rfl)
            try simp only [Act.put, List.setIfInBounds_toArray, List.set_cons_zero, List.set_cons_succ]
            refine wpAnyE_take (i := 9) (v := ?_) rfl (by kernel_rfl) (fun _ _ _ h => h) (Or.inl ⟨by rfl, ?_⟩) (by assumption) ?_
            rotate_left
            · (intro w hSw; (try dsimp only at hSw); go_simp; try with_reducible rfl)
            try simp only [Act.put, List.setIfInBounds_toArray, List.set_cons_zero, List.set_cons_succ]
            refine wpAnyE_take (i := 10) (v := ?_) rfl (by kernel_rfl) (fun _ _ _ h => h) (Or.inl ⟨by rfl, ?_⟩) (by assumption) ?_
            rotate_left
            · (intro w hSw; (try dsimp only at hSw); go_simp; try with_reducible rfl)
            try simp only [Act.put, List.setIfInBounds_toArray, List.set_cons_zero, List.set_cons_succ]
            refine wpAnyE_step (i := 11) rfl (by kernel_rfl) (fun K hK => ?_)
            rw [if_pos (by rfl)]
            go_wp2
            refine hK _ _ (by assumption) (fun hHeld => ?_)
            clear hK K
            try simp only [Act.put, List.setIfInBounds_toArray, List.set_cons_zero, List.set_cons_succ]
            refine wpAnyE_step (i := 12) rfl (by kernel_rfl) (fun K hK => ?_)
            rw [if_pos (by rfl)]
            (go_simp; go_at_call 70; refine HWA.out.mono ?_; rintro e w6 ⟨rfl, F6, hd6, hs6, hc6⟩; have hch6 := (hch5).drew.trans hc6 (fun q hq => hs5' q hq); have hlog6 : LogB w6 B bl bd lv vs next dead T := hl.changed hch6 (hd.noTy _ (by decide) (by decide) (by decide)) (hd.noTy _ (by decide) (by decide) (by decide)) (hd.noTy _ (by decide) (by decide) (by decide)))
            refine hK _ _ ⟨hlog6.c0, hlog6.c2⟩ (fun hHeld => ?_)
            clear hK K
            try simp only [Act.put, List.setIfInBounds_toArray, List.set_cons_zero, List.set_cons_succ]
            refine wpAnyE_step (i := 13) rfl (by kernel_rfl) (fun K hK => ?_)
            rw [if_pos (by rfl)]
            go_simp
            refine hK _ _ (by assumption) (fun hHeld => ?_)
            clear hK K
            try simp only [Act.put, List.setIfInBounds_toArray, List.set_cons_zero, List.set_cons_succ]
            refine wpAnyE_done (by kernel_rfl) ?_ _
            have c0' := hlog6.c0
            have hs6' := (hs5').trans hs6 (hch5).size
            rcases DM.write1_two Dc.sync1.1 next (f.take 64) with hwr | hwr
            · rw [hwr]
              have HWR := Lib.hid hwr
              have hop6 : (Dc.sync1.1.write1 next (f.take 64)).1.opn.length ≤ 1000000 := by
                have h1 := DM.write1_opn Dc.sync1.1 next (f.take 64)
                have h2 := (show Dc.sync1.1.opn.length ≤ 910000 by have := DM.sync1_opn Dc; have := HW.2.2; omega)
                omega
              have HOP6 := Lib.hid hop6
              clear hwr hop6
              go_wp2_with (go_at_call 71; refine (sync_at _ hd6 HOP6.out).mono ?_; rintro e w7 ⟨rfl, F7, hd7, hs7, hc7⟩)
              go_ret
              have hq := HWW5.out
              simp only [layEnd, HWR.out, if_true] at hq
              exact ⟨by rw [← hq]; rfl, F7, by rw [← hq]; exact hd7, hs6'.trans hs7 hch6.size, hch6.trans hc7 (fun q hq => hs6' q hq)⟩
            · rw [hwr]
              have HWR := Lib.hid hwr
              clear hwr
              go_wp2
              go_ret
              have hq := HWW5.out
              simp [layEnd, HWR.out] at hq
              exact ⟨by rw [← hq]; rfl, F6, by rw [← hq]; exact hd6, hs6', hch6⟩
        · have HSY := Lib.hid hsy
          have hW5 : (Dc.sync1.1, 14) = Y := by
            rw [layMid, if_pos h64, hsy, if_neg (by decide)] at hW
            exact hW
          have HWW5 := Lib.hid hW5
          have hopc : Dc.opn.length ≤ 1000000 := by have := HW.2.2; omega
          have HOPC := Lib.hid hopc
          clear hsy hW5 hopc hW
          go_wp2_with (first
            | (go_at_call 52; refine (span_calls f.length (by omega) _).mono ?_; rintro e w' ⟨rfl, rfl⟩)
            | (go_at_call 71; refine (sync_at _ hdc HOPC.out).mono ?_; rintro e w5 ⟨rfl, F5, hd5, hs5, hc5⟩; rw [HSY.out]))
          go_ret
          exact ⟨by rw [← HWW5.out]; rfl, F5, by rw [← HWW5.out]; exact hd5, hsb.trans hs5 hch.size, hch.trans hc5 (fun q hq => hsb q hq)⟩
      · have hWE : layEnd next f Dc = Y := by
          rw [layMid, if_neg h64] at hW
          exact hW
        have HWW := Lib.hid hWE
        clear hWE hW
        go_wp2_with (go_at_call 52; refine (span_calls f.length (by omega) _).mono ?_; rintro e w' ⟨rfl, rfl⟩)
        · skip
          have hcut : RB wr.drew (.slice (some ad) f.length f.length) (f.take 64) := by
            rw [List.take_of_length_le (show f.length ≤ 64 by omega)]
            exact RB.drewN (RB.recap (c' := f.length) (hrb) (Nat.le_refl _) (by unfold maxLen; omega)) 1
          have hawv : Away (.slice (some ad) f.length f.length) Fc := haw.sub HAW.out hsb
          have HWA : Hid (Calls Try.prog 70 #[.pointer (some ⟨bd, 0, none⟩), .int .i64 (next : Int), .slice (some ad) f.length f.length] wr.drew fun e w' => e = .returned (.int .i64 ((Dc.write1 next (f.take 64)).2 : Int)) ∧ ∃ F', DiskAt w' bd (Dc.write1 next (f.take 64)).1 F' ∧ Sub wr.drew Fc F' ∧ Changed Fc wr.drew w') :=
            Lib.hid (write_at _ hdc.drew next (by have := HW.2.1; omega) (by have := HW.2.2; omega) _ _ hcut hawv (by rw [List.length_take]; omega))
          have hlogE : LogB wr.drew B bl bd lv vs next dead T := hl.changed (hch).drew (hd.noTy _ (by decide) (by decide) (by decide)) (hd.noTy _ (by decide) (by decide) (by decide)) (hd.noTy _ (by decide) (by decide) (by decide))
          refine wp_region_E (S := fun w' => w'.cell? ⟨bl, 0, none⟩ = some (.pointer (some ⟨bd, 0, none⟩)) ∧ w'.cell? ⟨bl, 2, none⟩ = some (.int .i64 (next : Int))) (late := []) (by kernel_rfl) ⟨hlogE.c0, hlogE.c2⟩ (fun hHeld => ?_)
          refine wpAnyE_take (i := 0) (v := ?_) rfl (by kernel_rfl) (fun _ _ _ h => h) (Or.inl ⟨by rfl, ?_⟩) (by assumption) ?_
          rotate_left
          · (intro w hSw; (try dsimp only at hSw); go_simp; try with_reducible rfl)
          try simp only [Act.put, List.setIfInBounds_toArray, List.set_cons_zero, List.set_cons_succ]
          refine wpAnyE_take (i := 1) (v := ?_) rfl (by kernel_rfl) (fun _ _ _ h => h) (Or.inl ⟨by rfl, ?_⟩) (by assumption) ?_
          rotate_left
          · (intro w hSw; (try dsimp only at hSw); go_simp; try with_reducible rfl)
          try simp only [Act.put, List.setIfInBounds_toArray, List.set_cons_zero, List.set_cons_succ]
          refine wpAnyE_take (i := 2) (v := ?_) rfl (by kernel_rfl) (fun _ _ _ h => h) (Or.inl ⟨by rfl, ?_⟩) (by assumption) ?_
          rotate_left
          · (intro w hSw; (try dsimp only at hSw); go_simp; try with_reducible rfl)
          try simp only [Act.put, List.setIfInBounds_toArray, List.set_cons_zero, List.set_cons_succ]
          refine wpAnyE_take (i := 3) (v := ?_) rfl (by kernel_rfl) (fun _ _ _ h => h) (Or.inl ⟨by rfl, ?_⟩) (by assumption) ?_
          rotate_left
          · (intro w hSw; (try dsimp only at hSw); go_simp; try with_reducible rfl)
          try simp only [Act.put, List.setIfInBounds_toArray, List.set_cons_zero, List.set_cons_succ]
          refine wpAnyE_take (i := 4) (v := ?_) rfl (by kernel_rfl) (fun _ _ _ h => h) (Or.inl ⟨by rfl, ?_⟩) (by assumption) ?_
          rotate_left
          · (intro w hSw; (try dsimp only at hSw); go_simp; try with_reducible rfl)
          try simp only [Act.put, List.setIfInBounds_toArray, List.set_cons_zero, List.set_cons_succ]
          refine wpAnyE_take (i := 5) (v := ?_) rfl (by kernel_rfl) (fun _ _ _ h => h) (Or.inl ⟨by rfl, ?_⟩) (by assumption) ?_
          rotate_left
          · (intro w hSw; (try dsimp only at hSw); go_simp; try with_reducible rfl)
          try simp only [Act.put, List.setIfInBounds_toArray, List.set_cons_zero, List.set_cons_succ]
          refine wpAnyE_take (i := 6) (v := ?_) rfl (by kernel_rfl) (fun _ _ _ h => h) (Or.inl ⟨by rfl, ?_⟩) (by assumption) ?_
          rotate_left
          · (intro w hSw; (try dsimp only at hSw); go_simp; try with_reducible rfl)
          try simp only [Act.put, List.setIfInBounds_toArray, List.set_cons_zero, List.set_cons_succ]
          refine wpAnyE_take (i := 7) (v := ?_) rfl (by kernel_rfl) (fun _ _ _ h => h) (Or.inl ⟨by rfl, ?_⟩) (by assumption) ?_
          rotate_left
          · (intro w hSw; (try dsimp only at hSw); go_simp; try with_reducible rfl)
          try simp only [Act.put, List.setIfInBounds_toArray, List.set_cons_zero, List.set_cons_succ]
          refine wpAnyE_take (i := 8) (v := ?_) rfl (by kernel_rfl) (fun _ _ _ h => h) (Or.inl ⟨by rfl, ?_⟩) (by assumption) ?_
          rotate_left
          · (intro w hSw; (try dsimp only at hSw); go_simp; try with_reducible rfl)
          try simp only [Act.put, List.setIfInBounds_toArray, List.set_cons_zero, List.set_cons_succ]
          refine wpAnyE_take (i := 9) (v := ?_) rfl (by kernel_rfl) (fun _ _ _ h => h) (Or.inl ⟨by rfl, ?_⟩) (by assumption) ?_
          rotate_left
          · (intro w hSw; (try dsimp only at hSw); go_simp; try with_reducible rfl)
          try simp only [Act.put, List.setIfInBounds_toArray, List.set_cons_zero, List.set_cons_succ]
          refine wpAnyE_take (i := 10) (v := ?_) rfl (by kernel_rfl) (fun _ _ _ h => h) (Or.inl ⟨by rfl, ?_⟩) (by assumption) ?_
          rotate_left
          · (intro w hSw; (try dsimp only at hSw); go_simp; try with_reducible rfl)
          try simp only [Act.put, List.setIfInBounds_toArray, List.set_cons_zero, List.set_cons_succ]
          refine wpAnyE_step (i := 11) rfl (by kernel_rfl) (fun K hK => ?_)
          rw [if_pos (by rfl)]
          go_wp2
          refine hK _ _ (by assumption) (fun hHeld => ?_)
          clear hK K
          try simp only [Act.put, List.setIfInBounds_toArray, List.set_cons_zero, List.set_cons_succ]
          refine wpAnyE_step (i := 12) rfl (by kernel_rfl) (fun K hK => ?_)
          rw [if_pos (by rfl)]
          (go_simp; go_at_call 70; refine HWA.out.mono ?_; rintro e w6 ⟨rfl, F6, hd6, hs6, hc6⟩; have hch6 := (hch).drew.trans hc6 (fun q hq => hsb q hq); have hlog6 : LogB w6 B bl bd lv vs next dead T := hl.changed hch6 (hd.noTy _ (by decide) (by decide) (by decide)) (hd.noTy _ (by decide) (by decide) (by decide)) (hd.noTy _ (by decide) (by decide) (by decide)))
          refine hK _ _ ⟨hlog6.c0, hlog6.c2⟩ (fun hHeld => ?_)
          clear hK K
          try simp only [Act.put, List.setIfInBounds_toArray, List.set_cons_zero, List.set_cons_succ]
          refine wpAnyE_step (i := 13) rfl (by kernel_rfl) (fun K hK => ?_)
          rw [if_pos (by rfl)]
          go_simp
          refine hK _ _ (by assumption) (fun hHeld => ?_)
          clear hK K
          try simp only [Act.put, List.setIfInBounds_toArray, List.set_cons_zero, List.set_cons_succ]
          refine wpAnyE_done (by kernel_rfl) ?_ _
          have c0' := hlog6.c0
          have hs6' := (hsb).trans hs6 (hch).size
          rcases DM.write1_two Dc next (f.take 64) with hwr | hwr
          · rw [hwr]
            have HWR := Lib.hid hwr
            have hop6 : (Dc.write1 next (f.take 64)).1.opn.length ≤ 1000000 := by
              have h1 := DM.write1_opn Dc next (f.take 64)
              have h2 := HW.2.2
              omega
            have HOP6 := Lib.hid hop6
            clear hwr hop6
            go_wp2_with (go_at_call 71; refine (sync_at _ hd6 HOP6.out).mono ?_; rintro e w7 ⟨rfl, F7, hd7, hs7, hc7⟩)
            go_ret
            have hq := HWW.out
            simp only [layEnd, HWR.out, if_true] at hq
            exact ⟨by rw [← hq]; rfl, F7, by rw [← hq]; exact hd7, hs6'.trans hs7 hch6.size, hch6.trans hc7 (fun q hq => hs6' q hq)⟩
          · rw [hwr]
            have HWR := Lib.hid hwr
            clear hwr
            go_wp2
            go_ret
            have hq := HWW.out
            simp [layEnd, HWR.out] at hq
            exact ⟨by rw [← hq]; rfl, F6, by rw [← hq]; exact hd6, hs6', hch6⟩
    · have hk64 : 64 * k < f.length := by omega
      have hW := HW.1
      rw [layW, show spanN f.length - (m + 1) = k by omega] at hW
      have HWW := Lib.hid hW
      clear hW
      go_wp2_with (go_at_call 52; refine (span_calls f.length (by omega) _).mono ?_; rintro e w' ⟨rfl, rfl⟩)
      · have hcut : RB wr.drew (.slice (some (ad.add (64 * k))) (64 * (k + 1) - 64 * k) (64 * (k + 1) - 64 * k)) ((f.drop (64 * k)).take 64) := by
          have h1 := RB.drop (k := 64 * k) (RB.take (k := 64 * (k + 1)) hrb (by omega)) (by omega)
          rw [if_neg (by omega), List.drop_take] at h1
          simp only [Option.map_some] at h1
          have h2 := RB.recap (c' := 64 * (k + 1) - 64 * k) h1 (Nat.le_refl _) (by unfold maxLen; omega)
          rw [show 64 * (k + 1) - 64 * k = 64 by omega] at h2 ⊢
          exact RB.drewN h2 1
        have hawv : Away (.slice (some (ad.add (64 * k))) (64 * (k + 1) - 64 * k) (64 * (k + 1) - 64 * k)) Fc := hawc.cut _ _ _
        have HWA : Hid (Calls Try.prog 70 #[.pointer (some ⟨bd, 0, none⟩), .int .i64 ((next + k : Nat) : Int), .slice (some (ad.add (64 * k))) (64 * (k + 1) - 64 * k) (64 * (k + 1) - 64 * k)] wr.drew fun e w' => e = .returned (.int .i64 ((Dc.write1 (next + k) ((f.drop (64 * k)).take 64)).2 : Int)) ∧ ∃ F', DiskAt w' bd (Dc.write1 (next + k) ((f.drop (64 * k)).take 64)).1 F' ∧ Sub wr.drew Fc F' ∧ Changed Fc wr.drew w') :=
          Lib.hid (write_at _ hdc.drew (next + k) (by have := HW.2.1; omega) (by have := HW.2.2; omega) _ _ hcut hawv (by rw [List.length_take]; omega))
        rw [Int.natCast_add] at HWA
        refine wp_region_E (S := fun w' => w'.cell? ⟨bl, 0, none⟩ = some (.pointer (some ⟨bd, 0, none⟩)) ∧ w'.cell? ⟨bl, 2, none⟩ = some (.int .i64 (next : Int))) (late := []) (by kernel_rfl) ⟨c0, c2⟩ (fun hHeld => ?_)
        refine wpAnyE_take (i := 0) (v := ?_) rfl (by kernel_rfl) (fun _ _ _ h => h) (Or.inl ⟨by rfl, ?_⟩) (by assumption) ?_
        rotate_left
        · (intro w hSw; (try dsimp only at hSw); go_simp; try with_reducible rfl)
        try simp only [Act.put, List.setIfInBounds_toArray, List.set_cons_zero, List.set_cons_succ]
        refine wpAnyE_take (i := 1) (v := ?_) rfl (by kernel_rfl) (fun _ _ _ h => h) (Or.inl ⟨by rfl, ?_⟩) (by assumption) ?_
        rotate_left
        · (intro w hSw; (try dsimp only at hSw); go_simp; try with_reducible rfl)
        try simp only [Act.put, List.setIfInBounds_toArray, List.set_cons_zero, List.set_cons_succ]
        refine wpAnyE_take (i := 2) (v := ?_) rfl (by kernel_rfl) (fun _ _ _ h => h) (Or.inl ⟨by rfl, ?_⟩) (by assumption) ?_
        rotate_left
        · (intro w hSw; (try dsimp only at hSw); go_simp; try with_reducible rfl)
        try simp only [Act.put, List.setIfInBounds_toArray, List.set_cons_zero, List.set_cons_succ]
        refine wpAnyE_take (i := 3) (v := ?_) rfl (by kernel_rfl) (fun _ _ _ h => h) (Or.inl ⟨by rfl, ?_⟩) (by assumption) ?_
        rotate_left
        · (intro w hSw; (try dsimp only at hSw); go_simp; try with_reducible rfl)
        try simp only [Act.put, List.setIfInBounds_toArray, List.set_cons_zero, List.set_cons_succ]
        refine wpAnyE_take (i := 4) (v := ?_) rfl (by kernel_rfl) (fun _ _ _ h => h) (Or.inl ⟨by rfl, ?_⟩) (by assumption) ?_
        rotate_left
        · (intro w hSw; (try dsimp only at hSw); go_simp; try with_reducible rfl)
        try simp only [Act.put, List.setIfInBounds_toArray, List.set_cons_zero, List.set_cons_succ]
        refine wpAnyE_take (i := 5) (v := ?_) rfl (by kernel_rfl) (fun _ _ _ h => h) (Or.inl ⟨by rfl, ?_⟩) (by assumption) ?_
        rotate_left
        · (intro w hSw; (try dsimp only at hSw); go_simp; try with_reducible rfl)
        try simp only [Act.put, List.setIfInBounds_toArray, List.set_cons_zero, List.set_cons_succ]
        refine wpAnyE_take (i := 6) (v := ?_) rfl (by kernel_rfl) (fun _ _ _ h => h) (Or.inl ⟨by rfl, ?_⟩) (by assumption) ?_
        rotate_left
        · (intro w hSw; (try dsimp only at hSw); go_simp; try with_reducible rfl)
        try simp only [Act.put, List.setIfInBounds_toArray, List.set_cons_zero, List.set_cons_succ]
        refine wpAnyE_take (i := 7) (v := ?_) rfl (by kernel_rfl) (fun _ _ _ h => h) (Or.inl ⟨by rfl, ?_⟩) (by assumption) ?_
        rotate_left
        · (intro w hSw; (try dsimp only at hSw); go_simp; try with_reducible rfl)
        try simp only [Act.put, List.setIfInBounds_toArray, List.set_cons_zero, List.set_cons_succ]
        refine wpAnyE_take (i := 8) (v := ?_) rfl (by kernel_rfl) (fun _ _ _ h => h) (Or.inl ⟨by rfl, ?_⟩) (by assumption) ?_
        rotate_left
        · (intro w hSw; (try dsimp only at hSw); go_simp; try with_reducible rfl)
        try simp only [Act.put, List.setIfInBounds_toArray, List.set_cons_zero, List.set_cons_succ]
        refine wpAnyE_take (i := 9) (v := ?_) rfl (by kernel_rfl) (fun _ _ _ h => h) (Or.inl ⟨by rfl, ?_⟩) (by assumption) ?_
        rotate_left
        · (intro w hSw; (try dsimp only at hSw); go_simp; try with_reducible rfl)
        try simp only [Act.put, List.setIfInBounds_toArray, List.set_cons_zero, List.set_cons_succ]
        refine wpAnyE_take (i := 10) (v := ?_) rfl (by kernel_rfl) (fun _ _ _ h => h) (Or.inl ⟨by rfl, ?_⟩) (by assumption) ?_
        rotate_left
        · (intro w hSw; (try dsimp only at hSw); go_simp; try with_reducible rfl)
        try simp only [Act.put, List.setIfInBounds_toArray, List.set_cons_zero, List.set_cons_succ]
        refine wpAnyE_take (i := 11) (v := ?_) rfl (by kernel_rfl) (fun _ _ _ h => h) (Or.inl ⟨by rfl, ?_⟩) (by assumption) ?_
        rotate_left
        · (intro w hSw; (try dsimp only at hSw); go_simp; try with_reducible rfl)
        try simp only [Act.put, List.setIfInBounds_toArray, List.set_cons_zero, List.set_cons_succ]
        refine wpAnyE_take (i := 12) (v := ?_) rfl (by kernel_rfl) (fun _ _ _ h => h) (Or.inl ⟨by rfl, ?_⟩) (by assumption) ?_
        rotate_left
        · (intro w hSw; (try dsimp only at hSw); go_simp; try with_reducible rfl)
        try simp only [Act.put, List.setIfInBounds_toArray, List.set_cons_zero, List.set_cons_succ]
        refine wpAnyE_take (i := 13) (v := ?_) rfl (by kernel_rfl) (fun _ _ _ h => h) (Or.inl ⟨by rfl, ?_⟩) (by assumption) ?_
        rotate_left
        · (intro w hSw; (try dsimp only at hSw); go_simp; try with_reducible rfl)
        try simp only [Act.put, List.setIfInBounds_toArray, List.set_cons_zero, List.set_cons_succ]
        refine wpAnyE_step (i := 14) rfl (by kernel_rfl) (fun K hK => ?_)
        rw [if_pos (by rfl)]
        go_wp2
        refine hK _ _ (by assumption) (fun hHeld => ?_)
        clear hK K
        try simp only [Act.put, List.setIfInBounds_toArray, List.set_cons_zero, List.set_cons_succ]
        refine wpAnyE_step (i := 15) rfl (by kernel_rfl) (fun K hK => ?_)
        rw [if_pos (by rfl)]
        (go_simp; go_at_call 70; refine HWA.out.mono ?_; rintro e w4 ⟨rfl, F4, hd4, hs4, hc4⟩; have hch4 := (hch.drew).trans hc4 (fun q hq => hsb q hq); have hlog4 : LogB w4 B bl bd lv vs next dead T := hl.changed hch4 (hd.noTy _ (by decide) (by decide) (by decide)) (hd.noTy _ (by decide) (by decide) (by decide)) (hd.noTy _ (by decide) (by decide) (by decide)))
        refine hK _ _ ⟨hlog4.c0, hlog4.c2⟩ (fun hHeld => ?_)
        clear hK K
        try simp only [Act.put, List.setIfInBounds_toArray, List.set_cons_zero, List.set_cons_succ]
        refine wpAnyE_step (i := 16) rfl (by kernel_rfl) (fun K hK => ?_)
        rw [if_pos (by rfl)]
        go_simp
        refine hK _ _ (by assumption) (fun hHeld => ?_)
        clear hK K
        try simp only [Act.put, List.setIfInBounds_toArray, List.set_cons_zero, List.set_cons_succ]
        refine wpAnyE_done (by kernel_rfl) ?_ _
        rcases DM.write1_two Dc (next + k) ((f.drop (64 * k)).take 64) with hwr | hwr
        · rw [hwr]
          have HWR := Lib.hid hwr
          clear hwr
          go_wp2
          go_roundw
          case rel => exact ⟨m, k + 1, _, F4, by omega, by omega, by go_num, hd4, hsb.trans hs4 hch.size, hch4, Lib.hid ⟨by have := HWW.out; rw [if_pos HWR.out] at this; exact this, by rw [DM.write1_length]; exact HW.2.1, by have := DM.write1_opn Dc (next + k) ((f.drop (64 * k)).take 64); have := HW.2.2; omega⟩⟩
          case measure => simp [intOf]; omega
        · rw [hwr]
          have HWR := Lib.hid hwr
          clear hwr
          go_wp2
          go_ret
          have hq := HWW.out
          simp [HWR.out] at hq
          exact ⟨by rw [← hq]; rfl, F4, by rw [← hq]; exact hd4, hsb.trans hs4 hch.size, hch4⟩
      · have hcut : RB wr.drew (.slice (some (ad.add (64 * k))) (f.length - 64 * k) (f.length - 64 * k)) ((f.drop (64 * k)).take 64) := by
          have h1 := RB.drop (k := 64 * k) hrb (by omega)
          rw [if_neg (by omega)] at h1
          simp only [Option.map_some] at h1
          have h2 := RB.recap (c' := f.length - 64 * k) h1 (Nat.le_refl _) (by unfold maxLen; omega)
          rw [List.take_of_length_le (by rw [List.length_drop]; omega)]
          exact RB.drewN h2 1
        have hawv : Away (.slice (some (ad.add (64 * k))) (f.length - 64 * k) (f.length - 64 * k)) Fc := hawc.cut _ _ _
        have HWA : Hid (Calls Try.prog 70 #[.pointer (some ⟨bd, 0, none⟩), .int .i64 ((next + k : Nat) : Int), .slice (some (ad.add (64 * k))) (f.length - 64 * k) (f.length - 64 * k)] wr.drew fun e w' => e = .returned (.int .i64 ((Dc.write1 (next + k) ((f.drop (64 * k)).take 64)).2 : Int)) ∧ ∃ F', DiskAt w' bd (Dc.write1 (next + k) ((f.drop (64 * k)).take 64)).1 F' ∧ Sub wr.drew Fc F' ∧ Changed Fc wr.drew w') :=
          Lib.hid (write_at _ hdc.drew (next + k) (by have := HW.2.1; omega) (by have := HW.2.2; omega) _ _ hcut hawv (by rw [List.length_take]; omega))
        rw [Int.natCast_add] at HWA
        refine wp_region_E (S := fun w' => w'.cell? ⟨bl, 0, none⟩ = some (.pointer (some ⟨bd, 0, none⟩)) ∧ w'.cell? ⟨bl, 2, none⟩ = some (.int .i64 (next : Int))) (late := []) (by kernel_rfl) ⟨c0, c2⟩ (fun hHeld => ?_)
        refine wpAnyE_take (i := 0) (v := ?_) rfl (by kernel_rfl) (fun _ _ _ h => h) (Or.inl ⟨by rfl, ?_⟩) (by assumption) ?_
        rotate_left
        · (intro w hSw; (try dsimp only at hSw); go_simp; try with_reducible rfl)
        try simp only [Act.put, List.setIfInBounds_toArray, List.set_cons_zero, List.set_cons_succ]
        refine wpAnyE_take (i := 1) (v := ?_) rfl (by kernel_rfl) (fun _ _ _ h => h) (Or.inl ⟨by rfl, ?_⟩) (by assumption) ?_
        rotate_left
        · (intro w hSw; (try dsimp only at hSw); go_simp; try with_reducible rfl)
        try simp only [Act.put, List.setIfInBounds_toArray, List.set_cons_zero, List.set_cons_succ]
        refine wpAnyE_take (i := 2) (v := ?_) rfl (by kernel_rfl) (fun _ _ _ h => h) (Or.inl ⟨by rfl, ?_⟩) (by assumption) ?_
        rotate_left
        · (intro w hSw; (try dsimp only at hSw); go_simp; try with_reducible rfl)
        try simp only [Act.put, List.setIfInBounds_toArray, List.set_cons_zero, List.set_cons_succ]
        refine wpAnyE_take (i := 3) (v := ?_) rfl (by kernel_rfl) (fun _ _ _ h => h) (Or.inl ⟨by rfl, ?_⟩) (by assumption) ?_
        rotate_left
        · (intro w hSw; (try dsimp only at hSw); go_simp; try with_reducible rfl)
        try simp only [Act.put, List.setIfInBounds_toArray, List.set_cons_zero, List.set_cons_succ]
        refine wpAnyE_take (i := 4) (v := ?_) rfl (by kernel_rfl) (fun _ _ _ h => h) (Or.inl ⟨by rfl, ?_⟩) (by assumption) ?_
        rotate_left
        · (intro w hSw; (try dsimp only at hSw); go_simp; try with_reducible rfl)
        try simp only [Act.put, List.setIfInBounds_toArray, List.set_cons_zero, List.set_cons_succ]
        refine wpAnyE_take (i := 5) (v := ?_) rfl (by kernel_rfl) (fun _ _ _ h => h) (Or.inl ⟨by rfl, ?_⟩) (by assumption) ?_
        rotate_left
        · (intro w hSw; (try dsimp only at hSw); go_simp; try with_reducible rfl)
        try simp only [Act.put, List.setIfInBounds_toArray, List.set_cons_zero, List.set_cons_succ]
        refine wpAnyE_take (i := 6) (v := ?_) rfl (by kernel_rfl) (fun _ _ _ h => h) (Or.inl ⟨by rfl, ?_⟩) (by assumption) ?_
        rotate_left
        · (intro w hSw; (try dsimp only at hSw); go_simp; try with_reducible rfl)
        try simp only [Act.put, List.setIfInBounds_toArray, List.set_cons_zero, List.set_cons_succ]
        refine wpAnyE_take (i := 7) (v := ?_) rfl (by kernel_rfl) (fun _ _ _ h => h) (Or.inl ⟨by rfl, ?_⟩) (by assumption) ?_
        rotate_left
        · (intro w hSw; (try dsimp only at hSw); go_simp; try with_reducible rfl)
        try simp only [Act.put, List.setIfInBounds_toArray, List.set_cons_zero, List.set_cons_succ]
        refine wpAnyE_take (i := 8) (v := ?_) rfl (by kernel_rfl) (fun _ _ _ h => h) (Or.inl ⟨by rfl, ?_⟩) (by assumption) ?_
        rotate_left
        · (intro w hSw; (try dsimp only at hSw); go_simp; try with_reducible rfl)
        try simp only [Act.put, List.setIfInBounds_toArray, List.set_cons_zero, List.set_cons_succ]
        refine wpAnyE_take (i := 9) (v := ?_) rfl (by kernel_rfl) (fun _ _ _ h => h) (Or.inl ⟨by rfl, ?_⟩) (by assumption) ?_
        rotate_left
        · (intro w hSw; (try dsimp only at hSw); go_simp; try with_reducible rfl)
        try simp only [Act.put, List.setIfInBounds_toArray, List.set_cons_zero, List.set_cons_succ]
        refine wpAnyE_take (i := 10) (v := ?_) rfl (by kernel_rfl) (fun _ _ _ h => h) (Or.inl ⟨by rfl, ?_⟩) (by assumption) ?_
        rotate_left
        · (intro w hSw; (try dsimp only at hSw); go_simp; try with_reducible rfl)
        try simp only [Act.put, List.setIfInBounds_toArray, List.set_cons_zero, List.set_cons_succ]
        refine wpAnyE_take (i := 11) (v := ?_) rfl (by kernel_rfl) (fun _ _ _ h => h) (Or.inl ⟨by rfl, ?_⟩) (by assumption) ?_
        rotate_left
        · (intro w hSw; (try dsimp only at hSw); go_simp; try with_reducible rfl)
        try simp only [Act.put, List.setIfInBounds_toArray, List.set_cons_zero, List.set_cons_succ]
        refine wpAnyE_take (i := 12) (v := ?_) rfl (by kernel_rfl) (fun _ _ _ h => h) (Or.inl ⟨by rfl, ?_⟩) (by assumption) ?_
        rotate_left
        · (intro w hSw; (try dsimp only at hSw); go_simp; try with_reducible rfl)
        try simp only [Act.put, List.setIfInBounds_toArray, List.set_cons_zero, List.set_cons_succ]
        refine wpAnyE_take (i := 13) (v := ?_) rfl (by kernel_rfl) (fun _ _ _ h => h) (Or.inl ⟨by rfl, ?_⟩) (by assumption) ?_
        rotate_left
        · (intro w hSw; (try dsimp only at hSw); go_simp; try with_reducible rfl)
        try simp only [Act.put, List.setIfInBounds_toArray, List.set_cons_zero, List.set_cons_succ]
        refine wpAnyE_step (i := 14) rfl (by kernel_rfl) (fun K hK => ?_)
        rw [if_pos (by rfl)]
        go_wp2
        refine hK _ _ (by assumption) (fun hHeld => ?_)
        clear hK K
        try simp only [Act.put, List.setIfInBounds_toArray, List.set_cons_zero, List.set_cons_succ]
        refine wpAnyE_step (i := 15) rfl (by kernel_rfl) (fun K hK => ?_)
        rw [if_pos (by rfl)]
        (go_simp; go_at_call 70; refine HWA.out.mono ?_; rintro e w4 ⟨rfl, F4, hd4, hs4, hc4⟩; have hch4 := (hch.drew).trans hc4 (fun q hq => hsb q hq); have hlog4 : LogB w4 B bl bd lv vs next dead T := hl.changed hch4 (hd.noTy _ (by decide) (by decide) (by decide)) (hd.noTy _ (by decide) (by decide) (by decide)) (hd.noTy _ (by decide) (by decide) (by decide)))
        refine hK _ _ ⟨hlog4.c0, hlog4.c2⟩ (fun hHeld => ?_)
        clear hK K
        try simp only [Act.put, List.setIfInBounds_toArray, List.set_cons_zero, List.set_cons_succ]
        refine wpAnyE_step (i := 16) rfl (by kernel_rfl) (fun K hK => ?_)
        rw [if_pos (by rfl)]
        go_simp
        refine hK _ _ (by assumption) (fun hHeld => ?_)
        clear hK K
        try simp only [Act.put, List.setIfInBounds_toArray, List.set_cons_zero, List.set_cons_succ]
        refine wpAnyE_done (by kernel_rfl) ?_ _
        rcases DM.write1_two Dc (next + k) ((f.drop (64 * k)).take 64) with hwr | hwr
        · rw [hwr]
          have HWR := Lib.hid hwr
          clear hwr
          go_wp2
          go_roundw
          case rel => exact ⟨m, k + 1, _, F4, by omega, by omega, by go_num, hd4, hsb.trans hs4 hch.size, hch4, Lib.hid ⟨by have := HWW.out; rw [if_pos HWR.out] at this; exact this, by rw [DM.write1_length]; exact HW.2.1, by have := DM.write1_opn Dc (next + k) ((f.drop (64 * k)).take 64); have := HW.2.2; omega⟩⟩
          case measure => simp [intOf]; omega
        · rw [hwr]
          have HWR := Lib.hid hwr
          clear hwr
          go_wp2
          go_ret
          have hq := HWW.out
          simp [HWR.out] at hq
          exact ⟨by rw [← hq]; rfl, F4, by rw [← hq]; exact hd4, hsb.trans hs4 hch.size, hch4⟩
end Go.Proofs.Ytmfjhejhbomlpaa
