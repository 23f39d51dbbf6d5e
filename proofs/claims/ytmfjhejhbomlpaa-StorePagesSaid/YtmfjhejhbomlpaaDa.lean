/- The disk's functions, each by one contract over a disk behind a pointer. -/
import Derived.Test.YtmfjhejhbomlpaaWh
set_option linter.unusedVariables false
set_option linter.unusedSimpArgs false
namespace Go.Proofs.Ytmfjhejhbomlpaa
open Go.RowKit

/-- What was one's own, or is new. -/
def Sub (w : World) (F F' : Nat → Prop) : Prop := ∀ k, F' k → F k ∨ w.heap.size ≤ k
theorem Sub.refl (w : World) (F : Nat → Prop) : Sub w F F := fun _ h => .inl h
theorem Sub.trans {w w1 : World} {F G H : Nat → Prop} (h : Sub w F G) (k : Sub w1 G H) (hs : w.heap.size ≤ w1.heap.size) : Sub w F H := fun x hx => by
  rcases k x hx with h1 | h1
  · exact h x h1
  · exact .inr (by omega)
theorem dfoot_sub (w : World) {b bf bn : Nat} {ov ov' : Value} (h : ov'.ownBlock = ov.ownBlock ∨ ∀ k, ov'.ownBlock = some k → w.heap.size ≤ k) : Sub w (dfoot b bf bn ov) (dfoot b bf bn ov') := by
  rintro k (rfl | rfl | rfl | hk)
  · exact .inl (.inl rfl)
  · exact .inl (.inr (.inl rfl))
  · exact .inl (.inr (.inr (.inl rfl)))
  · rcases h with h | h
    · exact .inl (.inr (.inr (.inr (h ▸ hk))))
    · exact .inr (h k hk)
theorem dfoot_nil (w : World) {b bf bn : Nat} {ov : Value} : Sub w (dfoot b bf bn ov) (dfoot b bf bn (.slice none 0 0)) := by
  rintro k (rfl | rfl | rfl | hk)
  · exact .inl (.inl rfl)
  · exact .inl (.inr (.inl rfl))
  · exact .inl (.inr (.inr (.inl rfl)))
  · cases hk

def DM.write1 (D : DM) (k : Nat) (xs : List UInt8) : DM × Nat :=
  if D.off then (D, 14) else if D.steps = 14 then (D.stepped, 14) else (D.stepped.putW k (padS xs), 0)
def DM.sync1 (D : DM) : DM × Nat :=
  if D.off then (D, 14) else if D.steps = 14 then (D.stepped, 14) else (D.stepped.sync, 0)
theorem DM.steps_cases (D : DM) : D.steps = 0 ∨ D.steps = 14 := by
  unfold DM.steps
  split
  · exact .inr rfl
  · exact .inl rfl

theorem write_at {b : Nat} {D : DM} {F : Nat → Prop} (w : World) (h : DiskAt w b D F) (k : Nat) (hk : k < D.now.length) (hop : D.opn.length ≤ 1000000) (v : Value) (xs : List UInt8) (hx : RB w v xs) (haw : Away v F) (hx64 : xs.length ≤ 64) :
    Calls Try.prog 70 #[.pointer (some ⟨b, 0, none⟩), .int .i64 k, v] w fun e w' => e = .returned (.int .i64 ((D.write1 k xs).2 : Int)) ∧ ∃ F', DiskAt w' b (D.write1 k xs).1 F' ∧ Sub w F F' ∧ Changed F w w' := by
  obtain ⟨bf, bn, ov, hb, rfl⟩ := h
  unfold DM.write1
  cases ho : D.off
  · rcases D.steps_cases with hs | hs
    · rw [hs]
      refine (write_ok w hb ho hs k hk hop v xs hx haw hx64).mono ?_
      rintro e w' ⟨rfl, ⟨ov', h1, h2⟩, h3⟩
      exact ⟨rfl, _, ⟨bf, bn, ov', h1, rfl⟩, dfoot_sub w h2, h3⟩
    · rw [hs]
      refine (write_stop w hb ho hs k hk v xs hx hx64).mono ?_
      rintro e w' ⟨rfl, h1, h2⟩
      exact ⟨rfl, _, ⟨bf, bn, ov, h1, rfl⟩, Sub.refl _ _, h2.mono (fun k hk => .inl (.inl hk))⟩
  · refine (write_off w hb ho k v).mono ?_
    rintro e w' ⟨rfl, rfl⟩
    exact ⟨rfl, _, ⟨bf, bn, ov, hb, rfl⟩, Sub.refl _ _, Changed.refl _ _⟩

theorem sync_at {b : Nat} {D : DM} {F : Nat → Prop} (w : World) (h : DiskAt w b D F) (hop : D.opn.length ≤ 1000000) :
    Calls Try.prog 71 #[.pointer (some ⟨b, 0, none⟩)] w fun e w' => e = .returned (.int .i64 (D.sync1.2 : Int)) ∧ ∃ F', DiskAt w' b D.sync1.1 F' ∧ Sub w F F' ∧ Changed F w w' := by
  obtain ⟨bf, bn, ov, hb, rfl⟩ := h
  unfold DM.sync1
  cases ho : D.off
  · rcases D.steps_cases with hs | hs
    · rw [hs]
      refine (sync_ok w hb ho hs hop).mono ?_
      rintro e w' ⟨rfl, h1, h3⟩
      exact ⟨rfl, _, ⟨bf, bn, _, h1, rfl⟩, dfoot_nil w, h3⟩
    · rw [hs]
      refine (sync_stop w hb ho hs).mono ?_
      rintro e w' ⟨rfl, h1, h2⟩
      exact ⟨rfl, _, ⟨bf, bn, ov, h1, rfl⟩, Sub.refl _ _, h2.mono (fun k hk => .inl (.inl hk))⟩
  · refine (sync_off w hb ho).mono ?_
    rintro e w' ⟨rfl, rfl⟩
    exact ⟨rfl, _, ⟨bf, bn, ov, hb, rfl⟩, Sub.refl _ _, Changed.refl _ _⟩

theorem crash_at {b : Nat} {D : DM} {F : Nat → Prop} (w : World) (h : DiskAt w b D F) (hop : D.opn.length ≤ 1000000) (kv : Value) (keep : List Bool) (hkv : RL w kv (bools keep)) (haw : Away kv F) :
    Calls Try.prog 21 #[.pointer (some ⟨b, 0, none⟩), kv] w fun e w' => e = .returned (.int .i64 0) ∧ ∃ F', DiskAt w' b (D.crash keep) F' ∧ Sub w F F' ∧ Changed F w w' := by
  obtain ⟨bf, bn, ov, hb, rfl⟩ := h
  refine (crash_calls w hb hop kv keep hkv haw).mono ?_
  rintro e w' ⟨rfl, h1, h3⟩
  exact ⟨rfl, _, ⟨bf, bn, _, h1, rfl⟩, dfoot_nil w, h3⟩

theorem arm_at {b : Nat} {D : DM} {F : Nat → Prop} (w : World) (h : DiskAt w b D F) (n : Int) (hn : n ≤ 9223372036854775807) :
    Calls Try.prog 20 #[.pointer (some ⟨b, 0, none⟩), .int .i64 n] w fun e w' => e = .returned (.int .i64 (D.armE n : Int)) ∧ DiskAt w' b (D.arm n) F ∧ Changed F w w' := by
  obtain ⟨bf, bn, ov, hb, rfl⟩ := h
  refine (arm_calls w hb n hn).mono ?_
  rintro e w' ⟨rfl, h1, h2⟩
  exact ⟨rfl, ⟨bf, bn, ov, h1, rfl⟩, h2.mono (fun k hk => .inl (.inl hk))⟩

theorem sectors_at {b : Nat} {D : DM} {F : Nat → Prop} (w : World) (h : DiskAt w b D F) :
    Calls Try.prog 48 #[.pointer (some ⟨b, 0, none⟩)] w fun e w' => e = .returned (.int .i64 (D.now.length : Int)) ∧ w = w' := by
  obtain ⟨bf, bn, ov, hb, rfl⟩ := h
  exact sectors_calls w hb

theorem read_at {b : Nat} {D : DM} {F : Nat → Prop} (w : World) (h : DiskAt w b D F) (ho : D.off = false) (k : Nat) (hk : k < D.now.length) :
    Calls Try.prog 66 #[.pointer (some ⟨b, 0, none⟩), .int .i64 k] w fun e w' => ∃ v, e = .returned (.tuple #[v, .int .i64 0]) ∧ OwnB w' w.heap.size 97 v (D.now[k]) ∧ Below w.heap.size w w' := by
  obtain ⟨bf, bn, ov, hb, rfl⟩ := h
  exact read_ok w hb ho k hk

theorem read_off {b : Nat} {D : DM} {F : Nat → Prop} (w : World) (h : DiskAt w b D F) (ho : D.off = true) (k : Nat) :
    Calls Try.prog 66 #[.pointer (some ⟨b, 0, none⟩), .int .i64 k] w fun e w' => e = .returned (.tuple #[.slice none 0 0, .int .i64 14]) ∧ w = w' := by
  obtain ⟨bf, bn, ov, hb, rfl⟩ := h
  have hr : D.ready = 14 := by simp [DM.ready, ho]
  have HR := Lib.hid hr
  clear hr ho
  go_enter Try.func66, Try.ntmps66
  go_wp2_with (go_at_call 44; refine (ready_calls _ hb).mono ?_; rintro e w' ⟨rfl, rfl⟩; rw [HR.out])
  go_ret2
  exact ⟨rfl, rfl⟩

/-- All sectors' bytes. -/
def flat (l : List (List UInt8)) : List UInt8 := l.flatMap id
theorem flat_length (l : List (List UInt8)) (h : ∀ s ∈ l, s.length = 64) : (flat l).length = l.length * 64 := by
  have := secs_length l h
  have e : secs l = bs (flat l) := by
    clear h this
    induction l with
    | nil => rfl
    | cons s l ih =>
      have e1 : secs (s :: l) = bs s ++ secs l := by simp [secs]
      have e2 : flat (s :: l) = s ++ flat l := by simp [flat]
      rw [e1, e2, bs_append, ih]
  rw [e, bs_length] at this
  exact this
theorem flat_snoc (l : List (List UInt8)) (s : List UInt8) : flat (l ++ [s]) = flat l ++ s := by simp [flat]

theorem take_snoc' {α : Type} (l : List α) (k : Nat) (h : k < l.length) : l.take (k + 1) = l.take k ++ [l[k]] := List.take_succ_eq_append_getElem h

set_option maxHeartbeats 1000000 in
theorem readAll_calls {b : Nat} {D : DM} {F : Nat → Prop} (w : World) (h : DiskAt w b D F) (ho : D.off = false) :
    Calls Try.prog 49 #[.pointer (some ⟨b, 0, none⟩)] w fun e w' => ∃ v, e = .returned (.tuple #[v, .int .i64 0]) ∧ OwnB w' w.heap.size 5 v (flat D.now) ∧ Below w.heap.size w w' := by
  have hmx := h.ok.max
  have HO := Lib.hid ho
  clear ho
  have h64 : ∀ k, k ≤ D.now.length → (flat (D.now.take k)).length = k * 64 := fun k hk => by
    rw [flat_length _ (fun s hs => h.ok.now64 s (List.mem_of_mem_take hs)), List.length_take, Nat.min_eq_left hk]
  have H64 := Lib.hid h64
  clear h64
  go_enter Try.func49, Try.ntmps49
  go_wp2_with (go_at_call 48; refine (sectors_at _ h).mono ?_; rintro e w' ⟨rfl, rfl⟩)
  go_loopw [10, 4] (fun i v wr => ∃ k : Nat, k ≤ D.now.length ∧ i = .int .i64 k ∧ OwnB wr w.heap.size 5 v (flat (D.now.take k)) ∧ Below w.heap.size w wr) (fun i _ _ => D.now.length - (intOf i).toNat)
  case atStart => exact ⟨0, Nat.zero_le _, rfl, by simpa [flat, bs, OwnB] using Own.nil _ _ _, Below.refl _ _⟩
  case round =>
    obtain ⟨k, hk, rfl, hown, hb⟩ := hrel
    by_cases hlt : k < D.now.length
    · have hd : DiskAt wr b D F := h.frame (Changed.of_below (S := fun _ => False) hb) (fun _ _ h => h)
      have hl64 := h.ok.now64 _ (List.getElem_mem hlt)
      have HL := Lib.hid hl64
      clear hl64
      have hfk := H64.out k (by omega)
      have HFK := Lib.hid hfk
      clear hfk
      go_wp2_with (first
        | (go_at_call 66; ((with_reducible refine (read_at _ hd HO.out k hlt).mono ?_); rintro e w1 ⟨v1, rfl, hown1, hb1⟩; obtain ⟨A1, c1, hv1, hc1, hr1⟩ := Own.reads hown1; subst hv1; have hown' := Own.below hown hb1; have hbw1 := Below.step hb hb.size hb1))
        | (at_builtin; (refine wpList_appendAll rfl (.tmp 22) (.tmp 23) 41 5 _ 1 rfl Try.underlying41 byte_info rfl (by omega) _ (bs (flat (D.now.take k))) rfl A1 _ c1 (bs D.now[k]) rfl w1.heap.size hr1 (bs_one _) hown' hbw1 hbw1.size (by rw [bs_length, bs_length, HFK.out, HL.out]; omega) ?_; intro v2 w2 hown2 hb2 hg2 hat2; rw [← bs_append, ← flat_snoc, ← take_snoc' _ _ hlt] at hown2)))
      go_roundw
      case rel => exact ⟨k + 1, by omega, by go_num, hown2, hb2⟩
      case measure => simp [intOf]; omega
    · obtain rfl : k = D.now.length := by omega
      rw [List.take_length] at hown
      go_wp2
      go_ret2
      exact ⟨_, rfl, hown, hb⟩

theorem readAll_off {b : Nat} {D : DM} {F : Nat → Prop} (w : World) (h : DiskAt w b D F) (ho : D.off = true) :
    Calls Try.prog 49 #[.pointer (some ⟨b, 0, none⟩)] w fun e w' => e = .returned (.tuple #[.slice none 0 0, .int .i64 14]) ∧ w = w' := by
  have hmx := h.ok.max
  have hp := h.ok.pos
  have HO := Lib.hid ho
  clear ho
  go_enter Try.func49, Try.ntmps49
  go_wp2_with (go_at_call 48; refine (sectors_at _ h).mono ?_; rintro e w' ⟨rfl, rfl⟩)
  go_loop [10] (fun i => i = .int .i64 0) (fun _ => 0)
  case atStart => exact rfl
  case round =>
    obtain rfl := hrel
    go_wp2_with (go_at_call 66; refine (read_off _ h HO.out 0).mono ?_; rintro e w1 ⟨rfl, rfl⟩)
    go_ret2
    exact ⟨rfl, rfl⟩
end Go.Proofs.Ytmfjhejhbomlpaa
