/- Walks of the disk: a crash. -/
import Derived.Test.YtmfjhejhbomlpaaWf
set_option linter.unusedVariables false
set_option linter.unusedSimpArgs false
namespace Go.Proofs.Ytmfjhejhbomlpaa
open Go.RowKit

set_option maxRecDepth 100000 in
set_option maxHeartbeats 2000000 in
theorem crash_calls {b bf bn : Nat} {ov : Value} {D : DM} (w : World) (h : DiskB w b bf bn ov D) (hop : D.opn.length ≤ 1000000) (kv : Value) (keep : List Bool) (hkv : RL w kv (bools keep)) (haw : Away kv (dfoot b bf bn ov)) :
    Calls Try.prog 21 #[.pointer (some ⟨b, 0, none⟩), kv] w fun e w' => e = .returned (.int .i64 0) ∧ DiskB w' b bf bn (.slice none 0 0) (D.crash keep) ∧ Changed (dfoot b bf bn ov) w w' := by
  obtain ⟨KA, kc, rfl, hkc, hkn, hkm, hkr⟩ := hkv
  rw [bools_length] at hkc hkn hkr haw ⊢
  obtain ⟨A, c, rfl, hA, hAc⟩ := ownsRow_slice h.opn
  have hmx := h.ok.max
  have c2 := h.head.cell 2
  simp at c2
  go_enter Try.func21, Try.ntmps21
  go_wp2_with (go_at_call 45; refine (made_calls _ h).mono ?_; rintro e w' ⟨rfl, rfl⟩)
  go_loopw [17] (fun i wr => ∃ k : Nat, k ≤ D.opn.length ∧ i = .int .i64 k ∧ DiskB wr b bf bn (.slice A D.opn.length c) ⟨kept D.opn keep D.fast k, D.now, D.opn, D.armed, D.left, D.off⟩ ∧ Changed (dfoot b bf bn (.slice A D.opn.length c)) w wr) (fun i _ => D.opn.length - (intOf i).toNat)
  case atStart => exact ⟨0, Nat.zero_le _, rfl, h, Changed.refl _ _⟩
  case round =>
    obtain ⟨k, hk, rfl, hd, hch⟩ := hrel
    by_cases hlt : k < D.opn.length
    · obtain ⟨g, rfl, hg⟩ := hA (by omega)
      have hatn := h.ok.at_ _ (List.getElem_mem hlt)
      have h64 := h.ok.opn64 _ (List.getElem_mem hlt)
      have hrg := opn_range hd k hlt
      simp only at hrg
      have hl65 : (Value.int .i64 (D.opn[k].1 : Int) :: bs D.opn[k].2).length = 65 := by rw [List.length_cons, bs_length, h64]
      have hi : (Try.prog.info? 99).map (·.size) = some (Value.int .i64 (D.opn[k].1 : Int) :: bs D.opn[k].2).length := by rw [write_size, hl65]
      have hi2 : (Try.prog.info? 99).map (·.size) = some (Value.int .i64 (D.opn[k].1 : Int) :: bs D.opn[k].2).toArray.size := by rw [hi]; rfl
      have hz2 : (Value.int .i64 0 :: bs (List.replicate 64 0)).toArray.size = (Value.int .i64 (D.opn[k].1 : Int) :: bs D.opn[k].2).toArray.size := by rw [List.size_toArray, List.size_toArray, hl65]; rfl
      have HU := Lib.hid Try.underlying99
      have HI := Lib.hid hi
      have HI2 := Lib.hid hi2
      have HZ := Lib.hid hz2
      have H64 := Lib.hid h64
      have hgd : D.opn.getD k (0, []) = D.opn[k] := by rw [List.getD_eq_getElem?_getD, List.getElem?_eq_getElem hlt]; rfl
      have HGD := Lib.hid hgd
      clear hi hi2 hz2 hl65 h64 c2 hgd
      have hkr2 : Reads wr w.heap.size 1 KA keep.length (bools keep) := hkr.frame (Nat.le_refl _) hch haw
      by_cases hkk : k < keep.length
      · obtain ⟨kad, rfl, hkl, hkcell⟩ := hkr2.bool hkk
        cases hkb : keep[k]
        · rw [hkb] at hkcell
          have hkc2 : (wr.alloc (.cells (Value.int .i64 (D.opn[k].1 : Int) :: bs D.opn[k].2).toArray 99)).cell? (kad.add k) = _ := (World.cell?_alloc_lt _ _ _ (World.block_lt_of_cell? _ _ hkcell)).trans hkcell
          have hg0 : keep.getD k false = false := by rw [List.getD_eq_getElem?_getD, List.getElem?_eq_getElem hkl, hkb]; rfl
          have hkp : kept D.opn keep D.fast (k + 1) = kept D.opn keep D.fast k := by rw [kept, hg0]; rfl
          have HKP := Lib.hid hkp
          clear hkp hg0 hkb
          go_wp2_with (first
          | (with_reducible refine wpList_load_mid rfl 99 (.tmp 20) rfl g (k * 65) rfl (Value.int .i64 (D.opn[k].1 : Int) :: bs D.opn[k].2) _ hrg HU.out rfl HI.out ?_)
          | (with_reducible refine wpList_allocZ rfl 99 rfl _ write_zero ?_)
          | (refine wpList_store_fresh rfl 99 (.tmp 6) (.tmp 21) rfl _ _ _ rfl rfl HI2.out HZ.out (wr_all _ _) ?_))
          go_roundw
          case rel => exact ⟨k + 1, by omega, by go_num, by rw [HKP.out]; exact hd.frame (Changed.alloc (S := fun _ => False) _ _) (fun _ _ h => h), hch.trans (Changed.alloc (S := fun _ => False) _ _) (fun _ h => h.elim)⟩
          case measure => simp [intOf]; omega
        · rw [hkb] at hkcell
          have hkc2 : (wr.alloc (.cells (Value.int .i64 (D.opn[k].1 : Int) :: bs D.opn[k].2).toArray 99)).cell? (kad.add k) = _ := (World.cell?_alloc_lt _ _ _ (World.block_lt_of_cell? _ _ hkcell)).trans hkcell
          have hg0 : keep.getD k false = true := by rw [List.getD_eq_getElem?_getD, List.getElem?_eq_getElem hkl, hkb]; rfl
          have hkp : kept D.opn keep D.fast (k + 1) = (kept D.opn keep D.fast k).set D.opn[k].1 D.opn[k].2 := by rw [kept, hg0, if_pos rfl, HGD.out]
          have HKP := Lib.hid hkp
          clear hkp hg0 hkb
          go_wp2_with (first
          | (with_reducible refine wpList_load_mid rfl 99 (.tmp 20) rfl g (k * 65) rfl (Value.int .i64 (D.opn[k].1 : Int) :: bs D.opn[k].2) _ hrg HU.out rfl HI.out ?_)
          | (with_reducible refine wpList_allocZ rfl 99 rfl _ write_zero ?_)
          | (refine wpList_store_fresh rfl 99 (.tmp 6) (.tmp 21) rfl _ _ _ rfl rfl HI2.out HZ.out (wr_all _ _) ?_))
          have hq : D.opn[k].1 < (kept D.opn keep D.fast k).length := by rw [kept_length, h.ok.same]; exact hatn
          have hw : wr.heap.size ≠ bf := Nat.ne_of_gt hd.fast.lt
          have hd2 : DiskB (wr.alloc (.cells (Value.int .i64 (D.opn[k].1 : Int) :: bs D.opn[k].2).toArray 99)) b bf bn (.slice (some ⟨g, 0, none⟩) D.opn.length c) ⟨kept D.opn keep D.fast k, D.now, D.opn, D.armed, D.left, D.off⟩ := hd.frame (Changed.alloc (S := fun _ => False) _ _) (fun _ _ h => h)
          have hch2 : Changed (dfoot b bf bn (.slice (some ⟨g, 0, none⟩) D.opn.length c)) w (wr.alloc (.cells (Value.int .i64 (D.opn[k].1 : Int) :: bs D.opn[k].2).toArray 99)) := hch.trans (Changed.alloc (S := fun _ => False) _ _) (fun _ h => h.elim)
          have hnew : (wr.alloc (.cells (Value.int .i64 (D.opn[k].1 : Int) :: bs D.opn[k].2).toArray 99)).cell? ⟨wr.heap.size, 0, none⟩ = some (.int .i64 (D.opn[k].1 : Int)) := cell_of_row _ _ _ _ _ _ (heap_alloc_new wr _)
          have hnrg : (wr.alloc (.cells (Value.int .i64 (D.opn[k].1 : Int) :: bs D.opn[k].2).toArray 99)).rangeAt wr.heap.size 1 (bs D.opn[k].2) := Blk.rangeAt (Blk.new wr _ _) _ _ (fun j v hv => by rw [Nat.add_comm]; simpa using hv)
          clear hrg hd hch hkr2 hkcell hkc2
          generalize hwW : wr.heap.size = W at *
          clear hwW
          generalize wr.alloc (.cells (Value.int .i64 (D.opn[k].1 : Int) :: bs D.opn[k].2).toArray 99) = w2 at *
          have e0 := hd2.head.cell 0
          simp at e0
          have htf := hd2.there_fast D.opn[k].1 hq
          try simp only at htf
          have hput := hd2.drew.putFast D.opn[k].1 hq _ H64.out
          have hu := Try.underlying97
          have hi : (Try.prog.info? 97).map (·.size) = some (bs D.opn[k].2).length := by rw [sector_size, bs_length, H64.out]
          have hl : (bs D.opn[k].2).length = 64 := by rw [bs_length, H64.out]
          have h1c := bs_one D.opn[k].2
          have hneb : b ≠ bf := Ne.symm hd2.ne1
          have hq0 : (0 : Int) ≤ (D.opn[k].1 : Int) := Int.natCast_nonneg _
          have hqn : (D.opn[k].1 : Int) < (D.now.length : Int) := by omega
          generalize D.opn[k].1 = q at *
          generalize D.opn[k].2 = xs at *
          go_region_held3 (fun w' => w'.cell? ⟨b, 0, none⟩ = some (.slice (some ⟨bf, 0, none⟩) D.now.length D.now.length) ∧ w'.cell? ⟨W, 0, none⟩ = some (.int .i64 (q : Int)) ∧ w'.rangeAt W 1 (bs xs) ∧ w'.there bf (q * 64) 64)
            (first | go_keep_ranges | exact ⟨(World.cell?_setCells_out _ _ _ _ _ (fun h => absurd h hneb)).trans e0, (World.cell?_setCells_out _ _ _ _ _ (fun h => absurd h hw)).trans hnew, World.rangeAt_setCells_apart (w := w2.drew) hnrg _ _ _ (.inl hw), World.there_setCells (w := w2.drew) htf _ _ _⟩) (fail)
          go_wp2
          go_roundw
          case rel => exact ⟨k + 1, by omega, by go_num, by rw [HKP.out]; exact hput, (hch2.drew).trans (Changed.setCells (S := (· = bf)) bf rfl _ _ _) (fun _ h => .inl (.inr (.inl h)))⟩
          case measure => simp [intOf]; omega
      · have hg0 : keep.getD k false = false := by rw [List.getD_eq_getElem?_getD, List.getElem?_eq_none (by omega)]; rfl
        have hkp : kept D.opn keep D.fast (k + 1) = kept D.opn keep D.fast k := by rw [kept, hg0]; rfl
        have HKP := Lib.hid hkp
        clear hkp hg0
        go_wp2_with (first
          | (with_reducible refine wpList_load_mid rfl 99 (.tmp 20) rfl g (k * 65) rfl (Value.int .i64 (D.opn[k].1 : Int) :: bs D.opn[k].2) _ hrg HU.out rfl HI.out ?_)
          | (with_reducible refine wpList_allocZ rfl 99 rfl _ write_zero ?_)
          | (refine wpList_store_fresh rfl 99 (.tmp 6) (.tmp 21) rfl _ _ _ rfl rfl HI2.out HZ.out (wr_all _ _) ?_))
        go_roundw
        case rel => exact ⟨k + 1, by omega, by go_num, by rw [HKP.out]; exact hd.frame (Changed.alloc (S := fun _ => False) _ _) (fun _ _ h => h), hch.trans (Changed.alloc (S := fun _ => False) _ _) (fun _ h => h.elim)⟩
        case measure => simp [intOf]; omega
    · obtain rfl : k = D.opn.length := by omega
      clear c2 hkr hk
      have e2 := hd.head.cell 2
      simp at e2
      have hF : (kept D.opn keep D.fast D.opn.length).length = D.now.length := by rw [kept_length, h.ok.same]
      generalize hFF : kept D.opn keep D.fast D.opn.length = F at *
      have HFF := Lib.hid hFF
      have HF := Lib.hid hF
      clear hFF hF
      go_wp2
      go_loopw [47] (fun i wr => ∃ k : Nat, k ≤ D.opn.length ∧ i = .int .i64 k ∧ DiskB wr b bf bn (.slice A D.opn.length c) ⟨F, synced F (D.opn.take k) D.now, D.opn, D.armed, D.left, D.off⟩ ∧ Changed (dfoot b bf bn (.slice A D.opn.length c)) w wr) (fun i _ => D.opn.length - (intOf i).toNat)
      case atStart => exact ⟨0, Nat.zero_le _, rfl, hd, hch⟩
      case round =>
        clear hd hch e2
        obtain ⟨k, hk, rfl, hd, hch⟩ := hrel
        by_cases hlt : k < D.opn.length
        · obtain ⟨g, rfl, hg⟩ := hA (by omega)
          have hatn := h.ok.at_ _ (List.getElem_mem hlt)
          have h64 := h.ok.opn64 _ (List.getElem_mem hlt)
          have hrg := opn_range hd k hlt
          simp only at hrg
          have hl65 : (Value.int .i64 (D.opn[k].1 : Int) :: bs D.opn[k].2).length = 65 := by rw [List.length_cons, bs_length, h64]
          have hi : (Try.prog.info? 99).map (·.size) = some (Value.int .i64 (D.opn[k].1 : Int) :: bs D.opn[k].2).length := by rw [write_size, hl65]
          have hi2 : (Try.prog.info? 99).map (·.size) = some (Value.int .i64 (D.opn[k].1 : Int) :: bs D.opn[k].2).toArray.size := by rw [hi]; rfl
          have hz2 : (Value.int .i64 0 :: bs (List.replicate 64 0)).toArray.size = (Value.int .i64 (D.opn[k].1 : Int) :: bs D.opn[k].2).toArray.size := by rw [List.size_toArray, List.size_toArray, hl65]; rfl
          have HU := Lib.hid Try.underlying99
          have HI := Lib.hid hi
          have HI2 := Lib.hid hi2
          have HZ := Lib.hid hz2
          clear hi hi2 hz2 hl65 h64
          go_wp2_with (first
            | (with_reducible refine wpList_load_mid rfl 99 (.tmp 49) rfl g (k * 65) rfl (Value.int .i64 (D.opn[k].1 : Int) :: bs D.opn[k].2) _ hrg HU.out rfl HI.out ?_)
            | (with_reducible refine wpList_allocZ rfl 99 rfl _ write_zero ?_)
            | (refine wpList_store_fresh rfl 99 (.tmp 8) (.tmp 50) rfl _ _ _ rfl rfl HI2.out HZ.out (wr_all _ _) ?_))
          have hq : D.opn[k].1 < F.length := by rw [HF.out]; exact hatn
          have hqm : D.opn[k].1 < (synced F (List.take k D.opn) D.now).length := by rw [synced_length]; exact hatn
          have h64' := hd.ok.fast64 _ (List.getElem_mem hq)
          have H64 := Lib.hid h64'
          try simp only at H64
          clear h64'
          have hw : wr.heap.size ≠ bn := Nat.ne_of_gt hd.now.lt
          have hd2 : DiskB (wr.alloc (.cells (Value.int .i64 (D.opn[k].1 : Int) :: bs D.opn[k].2).toArray 99)) b bf bn (.slice (some ⟨g, 0, none⟩) D.opn.length c) ⟨F, synced F (List.take k D.opn) D.now, D.opn, D.armed, D.left, D.off⟩ := hd.frame (Changed.alloc (S := fun _ => False) _ _) (fun _ _ h => h)
          have hch2 : Changed (dfoot b bf bn (.slice (some ⟨g, 0, none⟩) D.opn.length c)) w (wr.alloc (.cells (Value.int .i64 (D.opn[k].1 : Int) :: bs D.opn[k].2).toArray 99)) := hch.trans (Changed.alloc (S := fun _ => False) _ _) (fun _ h => h.elim)
          have hnew : (wr.alloc (.cells (Value.int .i64 (D.opn[k].1 : Int) :: bs D.opn[k].2).toArray 99)).cell? ⟨wr.heap.size, 0, none⟩ = some (.int .i64 (D.opn[k].1 : Int)) := cell_of_row _ _ _ _ _ _ (heap_alloc_new wr _)
          clear hrg hd hch
          generalize hwW : wr.heap.size = W at *
          clear hwW
          generalize wr.alloc (.cells (Value.int .i64 (D.opn[k].1 : Int) :: bs D.opn[k].2).toArray 99) = w2 at *
          have e0 := hd2.head.cell 0
          have e1 := hd2.head.cell 1
          simp [synced_length] at e0 e1
          have hrn := hd2.range_fast D.opn[k].1 hq
          have htf := hd2.there_now D.opn[k].1 hqm
          try simp only at hrn htf
          have hput := hd2.drew.putNow D.opn[k].1 hqm _ H64.out
          have hxs : F.getD D.opn[k].1 [] = F[D.opn[k].1] := by rw [List.getD_eq_getElem?_getD, List.getElem?_eq_getElem hq]; rfl
          have hsn : (synced F (List.take k D.opn) D.now).set D.opn[k].1 F[D.opn[k].1] = synced F (List.take (k + 1) D.opn) D.now := by
            rw [List.take_succ_eq_append_getElem hlt, synced_snoc, hxs]
          have HSN := Lib.hid hsn
          clear hsn hxs
          have hu := Try.underlying97
          have hi : (Try.prog.info? 97).map (·.size) = some (bs F[D.opn[k].1]).length := by rw [sector_size, bs_length, H64.out]
          have hl : (bs F[D.opn[k].1]).length = 64 := by rw [bs_length, H64.out]
          have h1c := bs_one F[D.opn[k].1]
          have hneb : b ≠ bn := Ne.symm hd2.ne2
          have hnen : bf ≠ bn := hd2.ne
          have hq0 : (0 : Int) ≤ (D.opn[k].1 : Int) := Int.natCast_nonneg _
          have hqn : (D.opn[k].1 : Int) < (D.now.length : Int) := by omega
          generalize D.opn[k].1 = q at *
          go_region_held3 (fun w' => w'.cell? ⟨b, 0, none⟩ = some (.slice (some ⟨bf, 0, none⟩) D.now.length D.now.length) ∧ w'.cell? ⟨b, 1, none⟩ = some (.slice (some ⟨bn, 0, none⟩) D.now.length D.now.length) ∧ w'.cell? ⟨W, 0, none⟩ = some (.int .i64 (q : Int)) ∧ w'.rangeAt bf (q * 64) (bs F[q]) ∧ w'.there bn (q * 64) 64)
            (first | go_keep_ranges | exact ⟨(World.cell?_setCells_out _ _ _ _ _ (fun h => absurd h hneb)).trans e0, (World.cell?_setCells_out _ _ _ _ _ (fun h => absurd h hneb)).trans e1, (World.cell?_setCells_out _ _ _ _ _ (fun h => absurd h hw)).trans hnew, World.rangeAt_setCells_apart (w := w2.drew) hrn _ _ _ (.inl hnen), World.there_setCells (w := w2.drew) htf _ _ _⟩) (fail)
          go_wp2
          go_roundw
          case rel => exact ⟨k + 1, by omega, by go_num, by rw [← HSN.out]; exact hput, (hch2.drew).trans (Changed.setCells (S := (· = bn)) bn rfl _ _ _) (fun _ h => .inl (.inr (.inr (.inl h))))⟩
          case measure => simp [intOf]; omega
        · obtain rfl : k = D.opn.length := by omega
          have hh := hd.head
          have f2 := hd.head.frozen 2
          have f3 := hd.head.frozen 3
          have f4 := hd.head.frozen 4
          have f5 := hd.head.frozen 5
          have e2 := hh.cell 2
          have e3 := hh.cell 3
          have e4 := hh.cell 4
          have e5 := hh.cell 5
          simp at e2 e3 e4 e5
          have hcr : D.crash keep = ⟨F, synced F (List.take D.opn.length D.opn) D.now, [], false, 0, false⟩ := by
            rw [List.take_length]
            unfold DM.crash
            rw [HFF.out]
          have HCR := Lib.hid hcr
          clear hcr
          go_wp2
          go_ret
          have cb : ∀ (w0 : World), Changed (· = b) w0 (((w0.setCell ⟨b, 3, none⟩ (.bool false)).setCell ⟨b, 4, none⟩ (.int .i64 0)).setCell ⟨b, 5, none⟩ (.bool false)) := fun w0 =>
            ((Changed.setCell (S := (· = b)) w0 ⟨b, 3, none⟩ _ rfl).trans (Changed.setCell (S := (· = b)) _ ⟨b, 4, none⟩ _ rfl) (fun _ h => .inl h)).trans (Changed.setCell (S := (· = b)) _ ⟨b, 5, none⟩ _ rfl) (fun _ h => .inl h)
          refine ⟨rfl, ?_, (hch.trans (Changed.setCell (S := (· = b)) _ ⟨b, 2, none⟩ _ rfl) (fun _ h => .inl (.inl h))).trans (cb _) (fun _ h => .inl (.inl h))⟩
          rw [HCR.out]
          exact hd.clear.rehead (cb _) ⟨F, synced F (List.take D.opn.length D.opn) D.now, [], false, 0, false⟩ rfl rfl rfl (Nat.zero_le _) (((hd.clear.head.set_ 3 (.bool false)).set_ 4 (.int .i64 0)).set_ 5 (.bool false))
end Go.Proofs.Ytmfjhejhbomlpaa
