/- Walks of the disk: a write, a sync that do not come about. -/
import Derived.Test.YtmfjhejhbomlpaaWe
set_option linter.unusedVariables false
set_option linter.unusedSimpArgs false
namespace Go.Proofs.Ytmfjhejhbomlpaa
open Go.RowKit

theorem write_off {b bf bn : Nat} {ov : Value} {D : DM} (w : World) (h : DiskB w b bf bn ov D) (ho : D.off = true) (k : Nat) (v : Value) :
    Calls Try.prog 70 #[.pointer (some ⟨b, 0, none⟩), .int .i64 k, v] w fun e w' => e = .returned (.int .i64 14) ∧ w = w' := by
  have hr : D.ready = 14 := by simp [DM.ready, ho]
  have HR := Lib.hid hr
  clear hr ho
  go_enter Try.func70, Try.ntmps70
  go_wp2_with (go_at_call 44; refine (ready_calls _ h).mono ?_; rintro e w' ⟨rfl, rfl⟩; rw [HR.out])
  go_ret
  exact ⟨rfl, rfl⟩

theorem write_stop {b bf bn : Nat} {ov : Value} {D : DM} (w : World) (h : DiskB w b bf bn ov D) (ho : D.off = false) (hs : D.steps = 14) (k : Nat) (hk : k < D.now.length) (v : Value) (xs : List UInt8) (hx : RB w v xs) (hx64 : xs.length ≤ 64) :
    Calls Try.prog 70 #[.pointer (some ⟨b, 0, none⟩), .int .i64 k, v] w fun e w' => e = .returned (.int .i64 14) ∧ DiskB w' b bf bn ov D.stepped ∧ Changed (· = b) w w' := by
  obtain ⟨A, c, rfl, hc, hn, hm, hrr⟩ := hx
  have c1 := h.head.cell 1
  simp at c1
  have hr : D.ready = 0 := by simp [DM.ready, ho]
  have HR := Lib.hid hr
  have HS := Lib.hid hs
  clear hr ho hs
  have hmx := h.ok.max
  go_enter Try.func70, Try.ntmps70
  go_wp2_with (first
    | (go_at_call 44; refine (ready_calls _ h).mono ?_; rintro e w' ⟨rfl, rfl⟩; rw [HR.out])
    | (go_at_call 87; refine (step_calls _ h).mono ?_; rintro e ws ⟨rfl, hd1, hc1⟩; rw [HS.out]))
  go_ret
  exact ⟨rfl, hd1, hc1⟩

theorem sync_off {b bf bn : Nat} {ov : Value} {D : DM} (w : World) (h : DiskB w b bf bn ov D) (ho : D.off = true) :
    Calls Try.prog 71 #[.pointer (some ⟨b, 0, none⟩)] w fun e w' => e = .returned (.int .i64 14) ∧ w = w' := by
  have hr : D.ready = 14 := by simp [DM.ready, ho]
  have HR := Lib.hid hr
  clear hr ho
  go_enter Try.func71, Try.ntmps71
  go_wp2_with (go_at_call 44; refine (ready_calls _ h).mono ?_; rintro e w' ⟨rfl, rfl⟩; rw [HR.out])
  go_ret
  exact ⟨rfl, rfl⟩

theorem sync_stop {b bf bn : Nat} {ov : Value} {D : DM} (w : World) (h : DiskB w b bf bn ov D) (ho : D.off = false) (hs : D.steps = 14) :
    Calls Try.prog 71 #[.pointer (some ⟨b, 0, none⟩)] w fun e w' => e = .returned (.int .i64 14) ∧ DiskB w' b bf bn ov D.stepped ∧ Changed (· = b) w w' := by
  have hr : D.ready = 0 := by simp [DM.ready, ho]
  have HR := Lib.hid hr
  have HS := Lib.hid hs
  clear hr ho hs
  go_enter Try.func71, Try.ntmps71
  go_wp2_with (first
    | (go_at_call 44; refine (ready_calls _ h).mono ?_; rintro e w' ⟨rfl, rfl⟩; rw [HR.out])
    | (go_at_call 87; refine (step_calls _ h).mono ?_; rintro e ws ⟨rfl, hd1, hc1⟩; rw [HS.out]))
  go_ret
  exact ⟨rfl, hd1, hc1⟩

set_option maxRecDepth 100000 in
set_option maxHeartbeats 1000000 in
theorem sync_ok {b bf bn : Nat} {ov : Value} {D : DM} (w : World) (h : DiskB w b bf bn ov D) (ho : D.off = false) (hs : D.steps = 0) (hop : D.opn.length ≤ 1000000) :
    Calls Try.prog 71 #[.pointer (some ⟨b, 0, none⟩)] w fun e w' => e = .returned (.int .i64 0) ∧ DiskB w' b bf bn (.slice none 0 0) D.stepped.sync ∧ Changed (dfoot b bf bn ov) w w' := by
  have hr : D.ready = 0 := by simp [DM.ready, ho]
  have HR := Lib.hid hr
  have HS := Lib.hid hs
  clear hr ho hs
  have hlo : D.stepped.opn.length ≤ 1000000 := by rw [DM.stepped_opn]; exact hop
  obtain ⟨A, c, rfl, hA, hAc⟩ := ownsRow_slice h.opn
  have hmx := h.ok.max
  go_enter Try.func71, Try.ntmps71
  go_wp2_with (first
    | (go_at_call 44; refine (ready_calls _ h).mono ?_; rintro e w' ⟨rfl, rfl⟩; rw [HR.out])
    | (go_at_call 87; refine (step_calls _ h).mono ?_; rintro e ws ⟨rfl, hd1, hc1⟩; rw [HS.out]; have c2 := hd1.head.cell 2; simp at c2))
  go_loopw [22] (fun i wr => ∃ k : Nat, k ≤ D.opn.length ∧ i = .int .i64 k ∧ DiskB wr b bf bn (.slice A D.opn.length c) ⟨synced D.now (D.opn.take k) D.fast, D.now, D.opn, D.stepped.armed, D.stepped.left, D.stepped.off⟩ ∧ Changed (dfoot b bf bn (.slice A D.opn.length c)) w wr) (fun i _ => D.opn.length - (intOf i).toNat)
  case atStart => exact ⟨0, Nat.zero_le _, rfl, by have := hd1; rw [DM.stepped_eq] at this; simpa [synced] using this, hc1.mono (fun k hk => .inl (.inl hk))⟩
  case round =>
    obtain ⟨k, hk, rfl, hd, hch⟩ := hrel
    by_cases hlt : k < D.opn.length
    · obtain ⟨g, rfl, hg⟩ := hA (by omega)
      have hatn := h.ok.at_ _ (List.getElem_mem hlt)
      have h64 := h.ok.opn64 _ (List.getElem_mem hlt)
      have hn64 := h.ok.now64 _ (List.getElem_mem hatn)
      have hrg := opn_range hd k hlt
      simp only at hrg
      have hl65 : (Value.int .i64 (D.opn[k].1 : Int) :: bs D.opn[k].2).length = 65 := by rw [List.length_cons, bs_length, h64]
      have hi : (Try.prog.info? 99).map (·.size) = some (Value.int .i64 (D.opn[k].1 : Int) :: bs D.opn[k].2).length := by rw [write_size, hl65]
      have hi2 : (Try.prog.info? 99).map (·.size) = some (Value.int .i64 (D.opn[k].1 : Int) :: bs D.opn[k].2).toArray.size := by rw [hi]; rfl
      have hz2 : (Value.int .i64 0 :: bs (List.replicate 64 0)).toArray.size = (Value.int .i64 (D.opn[k].1 : Int) :: bs D.opn[k].2).toArray.size := by rw [List.size_toArray, List.size_toArray, hl65]; rfl
      have HU := Lib.hid Try.underlying99
      have HI := Lib.hid hi
      have HI2 := Lib.hid hi2
      have HZ := Lib.hid hz2
      have HN := Lib.hid hn64
      clear hi hi2 hz2 hl65 h64 hn64 hc1 c2 hd1
      go_wp2_with (first
        | (with_reducible refine wpList_load_mid rfl 99 (.tmp 24) rfl g (k * 65) rfl (Value.int .i64 (D.opn[k].1 : Int) :: bs D.opn[k].2) _ hrg HU.out rfl HI.out ?_)
        | (with_reducible refine wpList_allocZ rfl 99 rfl _ write_zero ?_)
        | (refine wpList_store_fresh rfl 99 (.tmp 6) (.tmp 25) rfl _ _ _ rfl rfl HI2.out HZ.out (wr_all _ _) ?_))
      have hq : D.opn[k].1 < (synced D.now (List.take k D.opn) D.fast).length := by rw [synced_length, h.ok.same]; exact hatn
      have hw : wr.heap.size ≠ bf := Nat.ne_of_gt hd.fast.lt
      have hd2 : DiskB (wr.alloc (.cells (Value.int .i64 (D.opn[k].1 : Int) :: bs D.opn[k].2).toArray 99)) b bf bn (.slice (some ⟨g, 0, none⟩) D.opn.length c) ⟨synced D.now (List.take k D.opn) D.fast, D.now, D.opn, D.stepped.armed, D.stepped.left, D.stepped.off⟩ := hd.frame (Changed.alloc (S := fun _ => False) _ _) (fun _ _ h => h)
      have hch2 : Changed (dfoot b bf bn (.slice (some ⟨g, 0, none⟩) D.opn.length c)) w (wr.alloc (.cells (Value.int .i64 (D.opn[k].1 : Int) :: bs D.opn[k].2).toArray 99)) := hch.trans (Changed.alloc (S := fun _ => False) _ _) (fun _ h => h.elim)
      have hnew : (wr.alloc (.cells (Value.int .i64 (D.opn[k].1 : Int) :: bs D.opn[k].2).toArray 99)).cell? ⟨wr.heap.size, 0, none⟩ = some (.int .i64 (D.opn[k].1 : Int)) := cell_of_row _ _ _ _ _ _ (heap_alloc_new wr _)
      clear hrg hd hch
      generalize hwW : wr.heap.size = W at *
      clear hwW
      generalize wr.alloc (.cells (Value.int .i64 (D.opn[k].1 : Int) :: bs D.opn[k].2).toArray 99) = w2 at *
      have e0 := hd2.head.cell 0
      have e1 := hd2.head.cell 1
      simp at e0 e1
      have hrn := hd2.range_now D.opn[k].1 hatn
      have htf := hd2.there_fast D.opn[k].1 hq
      simp only at hrn htf
      have hxs : D.now.getD D.opn[k].1 [] = D.now[D.opn[k].1] := by rw [List.getD_eq_getElem?_getD, List.getElem?_eq_getElem hatn]; rfl
      have hput := hd2.drew.putFast D.opn[k].1 hq _ HN.out
      have hsn : (synced D.now (List.take k D.opn) D.fast).set D.opn[k].1 D.now[D.opn[k].1] = synced D.now (List.take (k + 1) D.opn) D.fast := by
        rw [List.take_succ_eq_append_getElem hlt, synced_snoc, hxs]
      have HSN := Lib.hid hsn
      clear hsn hxs
      have hu := Try.underlying97
      have hi : (Try.prog.info? 97).map (·.size) = some (bs D.now[D.opn[k].1]).length := by rw [sector_size, bs_length, HN.out]
      have hl : (bs D.now[D.opn[k].1]).length = 64 := by rw [bs_length, HN.out]
      have h1c := bs_one D.now[D.opn[k].1]
      have hneb : b ≠ bf := Ne.symm hd2.ne1
      have hnen : bn ≠ bf := Ne.symm hd2.ne
      have hq0 : (0 : Int) ≤ (D.opn[k].1 : Int) := Int.natCast_nonneg _
      have hqn : (D.opn[k].1 : Int) < (D.now.length : Int) := by omega
      generalize D.opn[k].1 = q at *
      go_region_held3 (fun w' => w'.cell? ⟨b, 0, none⟩ = some (.slice (some ⟨bf, 0, none⟩) D.now.length D.now.length) ∧ w'.cell? ⟨b, 1, none⟩ = some (.slice (some ⟨bn, 0, none⟩) D.now.length D.now.length) ∧ w'.cell? ⟨W, 0, none⟩ = some (.int .i64 (q : Int)) ∧ w'.rangeAt bn (q * 64) (bs D.now[q]) ∧ w'.there bf (q * 64) 64)
        (first | go_keep_ranges | exact ⟨(World.cell?_setCells_out _ _ _ _ _ (fun h => absurd h hneb)).trans e0, (World.cell?_setCells_out _ _ _ _ _ (fun h => absurd h hneb)).trans e1, (World.cell?_setCells_out _ _ _ _ _ (fun h => absurd h hw)).trans hnew, World.rangeAt_setCells_apart (w := w2.drew) hrn _ _ _ (.inl hnen), World.there_setCells (w := w2.drew) htf _ _ _⟩) (fail)
      go_wp2
      go_roundw
      case rel => exact ⟨k + 1, by omega, by go_num, by rw [← HSN.out]; exact hput, (hch2.drew).trans (Changed.setCells (S := (· = bf)) bf rfl _ _ _) (fun _ h => .inl (.inr (.inl h)))⟩
      case measure => simp [intOf]; omega
    · obtain rfl : k = D.opn.length := by omega
      have e2 := hd.head.cell 2
      have f2 := hd.head.frozen 2
      simp at e2
      have hsy : D.stepped.sync = ⟨synced D.now (List.take D.opn.length D.opn) D.fast, D.now, [], D.stepped.armed, D.stepped.left, D.stepped.off⟩ := by
        rw [List.take_length]
        unfold DM.sync
        rw [DM.stepped_now, DM.stepped_opn, DM.stepped_fast]
      have HSY := Lib.hid hsy
      clear hsy
      go_wp2
      go_ret
      exact ⟨rfl, by rw [HSY.out]; exact hd.clear, hch.trans (Changed.setCell (S := (· = b)) _ ⟨b, 2, none⟩ _ rfl) (fun _ h => .inl (.inl h))⟩
end Go.Proofs.Ytmfjhejhbomlpaa
