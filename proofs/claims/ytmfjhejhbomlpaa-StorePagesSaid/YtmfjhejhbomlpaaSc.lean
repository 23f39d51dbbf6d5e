/- The walk that encodes changes. -/
import Derived.Test.YtmfjhejhbomlpaaSb
set_option linter.unusedVariables false
set_option linter.unusedSimpArgs false
namespace Go.Proofs.Ytmfjhejhbomlpaa
open Go.RowKit

set_option maxRecDepth 100000 in
set_option maxHeartbeats 2000000 in
theorem encode_ok (w : World) (v : Value) (xs : List (Chg × Value)) (h : CL w v xs) (h0 : checkG (xs.map Prod.fst) = 0) :
    Calls Try.prog 33 #[v] w fun e w' => ∃ u, e = .returned (.tuple #[u, .int .i64 0]) ∧ OwnB w' w.heap.size 5 u (encB (xs.map Prod.fst)) ∧ Below w.heap.size w w' := by
  have hg := check_good h0
  have hck := check_calls w v xs h
  rw [h0] at hck
  have HCK := Lib.hid hck
  have hn16 : xs.length ≤ 16 := by have := hg.max; rwa [List.length_map] at this
  have hn1 : 1 ≤ xs.length := by have := hg.pos; rwa [List.length_map] at this
  have hv0 := varB_len 1 xs.length (by omega) (by omega)
  have HG := Lib.hid hg
  have HCL := Lib.hid h
  have HL := Lib.hid (show v = v from rfl)
  obtain ⟨A, c, rfl, hc, hm, hn, hr, hxs⟩ := h
  obtain ⟨ad, rfl, hadb, hcell⟩ := hr.2 (by omega)
  have HC := Lib.hid hcell
  clear h0 hck hg hcell HL
  go_enter Try.func33, Try.ntmps33
  go_wp2_with (first
    | (go_at_call 56; refine HCK.out.mono ?_; rintro e w1 ⟨rfl, hb1⟩)
    | (go_at_call 57; refine (var_calls xs.length (by omega) _).mono ?_; rintro e w2 ⟨v2, rfl, hown2, hb2⟩; have hbw2 := Below.step hb1 hb1.size hb2; have hown2' := Own.low hown2 hb1.size))
  have hbs2 := hbw2.size
  generalize hW2 : w2 = W2 at *
  clear hW2
  go_loopw [20, 5] (fun i u wr => ∃ k : Nat, k ≤ xs.length ∧ i = .int .i64 (k : Int) ∧ OwnB wr w.heap.size 5 u (varB xs.length ++ ((xs.map Prod.fst).take k).flatMap encC) ∧ Below w.heap.size w wr) (fun i _ _ => xs.length - (intOf i).toNat)
  case atStart => exact ⟨0, Nat.zero_le _, rfl, by rw [List.take_zero, List.flatMap_nil, List.append_nil]; exact hown2', hbw2⟩
  case round =>
    obtain ⟨k, hk, rfl, hown, hb⟩ := hrel
    clear hown2' hown2 hbw2 hb2 hb1
    have hbs := hb.size
    by_cases hlt : k < xs.length
    · have a0 : wr.cell? (ad.add (k * 3)) = some (.string xs[k].1.key) := by
        rw [hb.cell (by rw [block_of_add]; exact hadb)]
        exact HC.out (k * 3) _ ((chc_at xs k hlt 0 (by omega)).trans rfl)
      have a1 : wr.cell? ⟨(ad.add (k * 3)).block, (ad.add (k * 3)).off + 1, none⟩ = some (.bool xs[k].1.del) := by
        rw [← addr_pos (ad.add (k * 3)) 1 (by omega), add_of_add, hb.cell (by rw [block_of_add]; exact hadb)]
        exact HC.out (k * 3 + 1) _ ((chc_at xs k hlt 1 (by omega)).trans rfl)
      have a2 : wr.cell? ⟨(ad.add (k * 3)).block, (ad.add (k * 3)).off + 2, none⟩ = some xs[k].2 := by
        rw [← addr_pos (ad.add (k * 3)) 2 (by omega), add_of_add, hb.cell (by rw [block_of_add]; exact hadb)]
        exact HC.out (k * 3 + 2) _ ((chc_at xs k hlt 2 (by omega)).trans rfl)
      have hmem : xs[k].1 ∈ xs.map Prod.fst := List.mem_map.2 ⟨_, List.getElem_mem hlt, rfl⟩
      have hkey := namedB_len (HG.out.key _ hmem)
      rw [str_length] at hkey
      have hval := HG.out.val _ hmem
      have hdel := HG.out.del _ hmem
      have hlen : (varB xs.length ++ ((xs.map Prod.fst).take k).flatMap encC).length ≤ 70000 := by
        rw [List.length_append]
        have h1 := flat_len ((xs.map Prod.fst).take k) (fun c hc => encC_len (HG.out.key c (List.mem_of_mem_take hc)) (HG.out.val c (List.mem_of_mem_take hc)))
        have h2 : ((xs.map Prod.fst).take k).length ≤ 16 := by rw [List.length_take]; omega
        omega
      have hsnoc : varB xs.length ++ ((xs.map Prod.fst).take (k + 1)).flatMap encC = (varB xs.length ++ ((xs.map Prod.fst).take k).flatMap encC) ++ encC xs[k].1 := by
        rw [List.take_succ_eq_append_getElem (by simpa using hlt), List.flatMap_append]
        simp
      have hrbx := (hxs xs[k] (List.getElem_mem hlt)).1
      have HSN := Lib.hid hsnoc
      have HDEL := Lib.hid hdel
      clear hsnoc hdel hmem
      generalize varB xs.length ++ ((xs.map Prod.fst).take k).flatMap encC = pre at *
      obtain ⟨x, hxk⟩ : ∃ x, xs[k].1 = x := ⟨_, rfl⟩
      obtain ⟨xv, hxv⟩ : ∃ x, xs[k].2 = x := ⟨_, rfl⟩
      rw [hxk] at a0 a1 hkey hval HSN HDEL hrbx
      rw [hxv] at a2 hrbx
      clear hxk hxv
      obtain ⟨key, del, val⟩ := x
      simp only at a0 a1 hkey hval hrbx
      obtain ⟨vA, vc, hve, hvc, hvn, hvm, hvr⟩ := hrbx
      subst hve
      unfold maxLen at hvm
      have hk2 := varB_len 2 key.size (by omega) (by omega)
      have hv2 := varB_len 2 val.length (by omega) (by omega)
      cases del
      · have hwk : IntKind.u64.wrap (key.size : Int) = (key.size : Int) := IntWalk.u64_in _ (by omega)
        go_upto_region 11 with fail
        have hB : BuildB w wr.heap.size 81 #[.string key, .bool false, .slice vA val.length vc] (wr.alloc (.cells #[.string key, .bool false, .slice vA val.length vc] 81)) u5 pre := ⟨Own.alloc' hown _, hb.alloc hbs _, Blk.new _ _ _⟩
        have hsz : (wr.alloc (.cells #[.string key, .bool false, .slice vA val.length vc] 81)).heap.size = wr.heap.size + 1 := by simp
        obtain ⟨N, hN⟩ : ∃ N, wr.heap.size = N := ⟨_, rfl⟩
        rw [hN] at hB hsz hbs ⊢
        generalize wr.alloc (.cells #[.string key, .bool false, .slice vA val.length vc] 81) = W at *
        go_cut [5] (fun v' wx => BuildB w N 81 #[.string key, .bool false, .slice vA val.length vc] wx v' (pre ++ [0] ++ varB key.size))
        case first =>
          refine wp_region_E (S := fun w' => w'.cell? ⟨N, 0, none⟩ = some (.string key)) (late := [10]) (by kernel_rfl) ((hB.box.cell 0).trans rfl) (fun hHeld => ?_)
          refine wpAnyE_take (i := 0) (v := ?_) rfl (by kernel_rfl) (fun _ _ _ h => h) (Or.inl ⟨by rfl, ?_⟩) (by assumption) ?_
          rotate_left
          · (intro w hSw; (try dsimp only at hSw); go_simp; try with_reducible rfl)
          try simp only [Act.put, List.setIfInBounds_toArray, List.set_cons_zero, List.set_cons_succ]
          refine wpAnyE_take (i := 1) (v := ?_) rfl (by kernel_rfl) (fun _ _ _ h => h) (Or.inl ⟨by rfl, ?_⟩) (by assumption) ?_
          rotate_left
          · (intro w hSw; (try dsimp only at hSw); go_simp; try with_reducible rfl)
          try simp only [Act.put, List.setIfInBounds_toArray, List.set_cons_zero, List.set_cons_succ]
          refine wpAnyE_take (i := 4) (v := ?_) rfl (by kernel_rfl) (fun _ _ _ h => h) (Or.inl ⟨by rfl, ?_⟩) (by assumption) ?_
          rotate_left
          · (intro w hSw; (try dsimp only at hSw); go_simp; try with_reducible rfl)
          try simp only [Act.put, List.setIfInBounds_toArray, List.set_cons_zero, List.set_cons_succ]
          refine wpAnyE_take (i := 5) (v := ?_) rfl (by kernel_rfl) (fun _ _ _ h => h) (Or.inl ⟨by rfl, ?_⟩) (by assumption) ?_
          rotate_left
          · (intro w hSw; (try dsimp only at hSw); go_simp; try with_reducible rfl)
          try simp only [Act.put, List.setIfInBounds_toArray, List.set_cons_zero, List.set_cons_succ]
          refine wpAnyE_take (i := 6) (v := ?_) rfl (by kernel_rfl) (fun _ _ _ h => h) (Or.inl ⟨by rfl, ?_⟩) (by assumption) ?_
          rotate_left
          · (intro w hSw; (try dsimp only at hSw); go_simp; try with_reducible rfl)
          try simp only [Act.put, List.setIfInBounds_toArray, List.set_cons_zero, List.set_cons_succ]
          refine wpAnyE_take (i := 7) (v := ?_) rfl (by kernel_rfl) (fun _ _ _ h => h) (Or.inl ⟨by rfl, ?_⟩) (by assumption) ?_
          rotate_left
          · (intro w hSw; (try dsimp only at hSw); go_simp; try with_reducible rfl)
          try simp only [Act.put, List.setIfInBounds_toArray, List.set_cons_zero, List.set_cons_succ]
          refine wpAnyE_step (i := 2) rfl (by kernel_rfl) (fun K hK => ?_)
          rw [if_pos (by rfl)]
          go_simp
          refine hK _ _ ((World.cell?_alloc_lt _ _ _ hB.box.lt).trans hHeld) (fun hHeld => ?_)
          clear hK K
          try simp only [Act.put, List.setIfInBounds_toArray, List.set_cons_zero, List.set_cons_succ]
          have hB1 := hB.drew.alloc (.cells #[.int .u8 0] 5)
          have hk1 : Blk (W.drew.alloc (.cells #[.int .u8 0] 5)) (N + 1) 5 #[.int .u8 0] := by rw [← hsz]; exact Blk.new W.drew _ _
          refine wpAnyE_step (i := 3) rfl (by kernel_rfl) (fun K hK => ?_)
          rw [if_pos (by rfl)]
          (refine wp_build hB1 (by decide) (.tmp 26) (.tmp 28) 41 rfl Try.underlying41 byte_info [0] rfl (some ⟨N + 1, 0, none⟩) 1 1 rfl _ (reads_blk1 hk1) (by omega) ?_; intro v3 w3 hB3 hg3)
          refine hK _ _ (hB3.box.cell 0) (fun hHeld => ?_)
          clear hK K
          try simp only [Act.put, List.setIfInBounds_toArray, List.set_cons_zero, List.set_cons_succ]
          refine wpAnyE_step (i := 8) rfl (by kernel_rfl) (fun K hK => ?_)
          rw [if_pos (by rfl)]
          (go_simp; go_at_call 57; refine (var_calls key.size (by omega) _).mono ?_; rintro e w4 ⟨v4, rfl, hown4, hb4⟩; have hB4 := hB3.below hb4; obtain ⟨A4, c4, hv4, hc4, hr4⟩ := Own.reads hown4; subst hv4)
          refine hK _ _ (hB4.box.cell 0) (fun hHeld => ?_)
          clear hK K
          try simp only [Act.put, List.setIfInBounds_toArray, List.set_cons_zero, List.set_cons_succ]
          refine wpAnyE_step (i := 9) rfl (by kernel_rfl) (fun K hK => ?_)
          rw [if_pos (by rfl)]
          (refine wp_build hB4 (by decide) (.tmp 29) (.tmp 34) 41 rfl Try.underlying41 byte_info (varB key.size) rfl A4 (bs (varB key.size)).length c4 rfl _ hr4 (by rw [bs_length, List.length_append]; simp only [List.length_cons, List.length_nil]; omega) ?_; intro v5 w5 hB5 hg5)
          refine hK _ _ (hB5.box.cell 0) (fun hHeld => ?_)
          clear hK K
          try simp only [Act.put, List.setIfInBounds_toArray, List.set_cons_zero, List.set_cons_succ]
          refine wpAnyE_late (i := 10) rfl (by kernel_rfl) (by kernel_rfl) (fun K hK => ?_)
          rw [if_pos (by rfl)]
          go_simp
          refine hK _ _ ?_
          clear hK K
          try simp only [Act.put, List.setIfInBounds_toArray, List.set_cons_zero, List.set_cons_succ]
          refine wpAnyE_done (by kernel_rfl) ?_ _
          go_wp2_with fail
          go_meet
          exact hB5
        case rest =>
          have c0 : wc.cell? ⟨N, 0, none⟩ = some (.string key) := hcut.box.cell 0
          have c1 : wc.cell? ⟨N, 1, none⟩ = some (.bool false) := hcut.box.cell 1
          have hkl : key.toList.length = key.size := str_length key
          have HKL := Lib.hid hkl
          clear hkl
          go_wp2_with (at_builtin; refine wpList_appendStr (w0 := w) rfl (.tmp 36) (.tmp 38) 41 9 5 rfl Try.underlying41 Try.underlying9 byte_info _ _ rfl key rfl hcut.own hcut.bel hcut.bel.size (by rw [List.length_append, List.length_append]; simp only [List.length_cons, List.length_nil]; omega) ?_; intro v6 w6 hown6 hb6 hg6; have hx6 := hcut.box.grown hg6 (fun e => own_blk_ne hcut.own hcut.box (by decide) e.symm); have e1 : w6.cell? ⟨N, 1, none⟩ = some (.bool false) := hx6.cell 1)
          have hB6 : BuildB w N 81 #[.string key, .bool false, .slice vA val.length vc] w6 v6 (pre ++ [0] ++ varB key.size ++ key.toList) := ⟨hown6, hb6, hx6⟩
          have hr6 : Reads w6 w6.heap.size 1 vA val.length (bs val) := (hvr.below hb6).more hb6.size
          have hvk : IntKind.u64.wrap (val.length : Int) = (val.length : Int) := IntWalk.u64_in _ (by omega)
          refine wp_region_E (S := fun w' => w'.cell? ⟨N, 2, none⟩ = some (.slice vA val.length vc)) (late := [10]) (by kernel_rfl) ((hB6.box.cell 2).trans rfl) (fun hHeld => ?_)
          refine wpAnyE_take (i := 0) (v := ?_) rfl (by kernel_rfl) (fun _ _ _ h => h) (Or.inl ⟨by rfl, ?_⟩) (by assumption) ?_
          rotate_left
          · (intro w hSw; (try dsimp only at hSw); go_simp; try with_reducible rfl)
          try simp only [Act.put, List.setIfInBounds_toArray, List.set_cons_zero, List.set_cons_succ]
          refine wpAnyE_take (i := 1) (v := ?_) rfl (by kernel_rfl) (fun _ _ _ h => h) (Or.inl ⟨by rfl, ?_⟩) (by assumption) ?_
          rotate_left
          · (intro w hSw; (try dsimp only at hSw); go_simp; try with_reducible rfl)
          try simp only [Act.put, List.setIfInBounds_toArray, List.set_cons_zero, List.set_cons_succ]
          refine wpAnyE_take (i := 2) (v := ?_) rfl (by kernel_rfl) (fun _ _ _ h => h) (Or.inl ⟨by rfl, ?_⟩) (by assumption) ?_
          rotate_left
          · (intro w hSw; (try dsimp only at hSw); go_simp; try with_reducible rfl)
          try simp only [Act.put, List.setIfInBounds_toArray, List.set_cons_zero, List.set_cons_succ]
          refine wpAnyE_take (i := 3) (v := ?_) rfl (by kernel_rfl) (fun _ _ _ h => h) (Or.inl ⟨by rfl, ?_⟩) (by assumption) ?_
          rotate_left
          · (intro w hSw; (try dsimp only at hSw); go_simp; try with_reducible rfl)
          try simp only [Act.put, List.setIfInBounds_toArray, List.set_cons_zero, List.set_cons_succ]
          refine wpAnyE_take (i := 4) (v := ?_) rfl (by kernel_rfl) (fun _ _ _ h => h) (Or.inl ⟨by rfl, ?_⟩) (by assumption) ?_
          rotate_left
          · (intro w hSw; (try dsimp only at hSw); go_simp; try with_reducible rfl)
          try simp only [Act.put, List.setIfInBounds_toArray, List.set_cons_zero, List.set_cons_succ]
          refine wpAnyE_take (i := 7) (v := ?_) rfl (by kernel_rfl) (fun _ _ _ h => h) (Or.inl ⟨by rfl, ?_⟩) (by assumption) ?_
          rotate_left
          · (intro w hSw; (try dsimp only at hSw); go_simp; try with_reducible rfl)
          try simp only [Act.put, List.setIfInBounds_toArray, List.set_cons_zero, List.set_cons_succ]
          refine wpAnyE_take (i := 8) (v := ?_) rfl (by kernel_rfl) (fun _ _ _ h => h) (Or.inl ⟨by rfl, ?_⟩) (by assumption) ?_
          rotate_left
          · (intro w hSw; (try dsimp only at hSw); go_simp; try with_reducible rfl)
          try simp only [Act.put, List.setIfInBounds_toArray, List.set_cons_zero, List.set_cons_succ]
          refine wpAnyE_step (i := 5) rfl (by kernel_rfl) (fun K hK => ?_)
          rw [if_pos (by rfl)]
          (go_simp; go_at_call 57; refine (var_calls val.length (by omega) _).mono ?_; rintro e w7 ⟨v7, rfl, hown7, hb7⟩; have hB7 := hB6.drew.below hb7; obtain ⟨A7, c7, hv7, hc7, hr7⟩ := Own.reads hown7; subst hv7)
          refine hK _ _ (hB7.box.cell 2) (fun hHeld => ?_)
          clear hK K
          try simp only [Act.put, List.setIfInBounds_toArray, List.set_cons_zero, List.set_cons_succ]
          refine wpAnyE_step (i := 6) rfl (by kernel_rfl) (fun K hK => ?_)
          rw [if_pos (by rfl)]
          (refine wp_build hB7 (by decide) (.tmp 43) (.tmp 48) 41 rfl Try.underlying41 byte_info (varB val.length) rfl A7 (bs (varB val.length)).length c7 rfl _ hr7 (by simp only [bs_length, List.length_append, List.length_cons, List.length_nil, HKL.out]; omega) ?_; intro v8 w8 hB8 hg8)
          refine hK _ _ (hB8.box.cell 2) (fun hHeld => ?_)
          clear hK K
          try simp only [Act.put, List.setIfInBounds_toArray, List.set_cons_zero, List.set_cons_succ]
          refine wpAnyE_step (i := 9) rfl (by kernel_rfl) (fun K hK => ?_)
          rw [if_pos (by rfl)]
          (refine wp_build hB8 (by decide) (.tmp 49) (.tmp 51) 41 rfl Try.underlying41 byte_info val rfl vA val.length vc rfl _ ((hvr.below hB8.bel).more hB8.bel.size) (by simp only [List.length_append, List.length_cons, List.length_nil, HKL.out]; omega) ?_; intro v9 w9 hB9 hg9)
          refine hK _ _ (hB9.box.cell 2) (fun hHeld => ?_)
          clear hK K
          try simp only [Act.put, List.setIfInBounds_toArray, List.set_cons_zero, List.set_cons_succ]
          refine wpAnyE_late (i := 10) rfl (by kernel_rfl) (by kernel_rfl) (fun K hK => ?_)
          rw [if_pos (by rfl)]
          go_simp
          refine hK _ _ ?_
          clear hK K
          try simp only [Act.put, List.setIfInBounds_toArray, List.set_cons_zero, List.set_cons_succ]
          refine wpAnyE_done (by kernel_rfl) ?_ _
          go_wp2
          go_roundw
          case rel => exact ⟨k + 1, by omega, by go_num, by rw [HSN.out]; simpa [encC, OwnB] using hB9.own, hB9.bel⟩
          case measure => simp [intOf]; omega
      · have hwk : IntKind.u64.wrap (key.size : Int) = (key.size : Int) := IntWalk.u64_in _ (by omega)
        go_upto_region 11 with fail
        have hB : BuildB w wr.heap.size 81 #[.string key, .bool true, .slice vA val.length vc] (wr.alloc (.cells #[.string key, .bool true, .slice vA val.length vc] 81)) u5 pre := ⟨Own.alloc' hown _, hb.alloc hbs _, Blk.new _ _ _⟩
        have hsz : (wr.alloc (.cells #[.string key, .bool true, .slice vA val.length vc] 81)).heap.size = wr.heap.size + 1 := by simp
        obtain ⟨N, hN⟩ : ∃ N, wr.heap.size = N := ⟨_, rfl⟩
        rw [hN] at hB hsz hbs ⊢
        generalize wr.alloc (.cells #[.string key, .bool true, .slice vA val.length vc] 81) = W at *
        go_cut [5] (fun v' wx => BuildB w N 81 #[.string key, .bool true, .slice vA val.length vc] wx v' (pre ++ [1] ++ varB key.size))
        case first =>
          refine wp_region_E (S := fun w' => w'.cell? ⟨N, 0, none⟩ = some (.string key)) (late := [10]) (by kernel_rfl) ((hB.box.cell 0).trans rfl) (fun hHeld => ?_)
          refine wpAnyE_take (i := 0) (v := ?_) rfl (by kernel_rfl) (fun _ _ _ h => h) (Or.inl ⟨by rfl, ?_⟩) (by assumption) ?_
          rotate_left
          · (intro w hSw; (try dsimp only at hSw); go_simp; try with_reducible rfl)
          try simp only [Act.put, List.setIfInBounds_toArray, List.set_cons_zero, List.set_cons_succ]
          refine wpAnyE_take (i := 1) (v := ?_) rfl (by kernel_rfl) (fun _ _ _ h => h) (Or.inl ⟨by rfl, ?_⟩) (by assumption) ?_
          rotate_left
          · (intro w hSw; (try dsimp only at hSw); go_simp; try with_reducible rfl)
          try simp only [Act.put, List.setIfInBounds_toArray, List.set_cons_zero, List.set_cons_succ]
          refine wpAnyE_take (i := 4) (v := ?_) rfl (by kernel_rfl) (fun _ _ _ h => h) (Or.inl ⟨by rfl, ?_⟩) (by assumption) ?_
          rotate_left
          · (intro w hSw; (try dsimp only at hSw); go_simp; try with_reducible rfl)
          try simp only [Act.put, List.setIfInBounds_toArray, List.set_cons_zero, List.set_cons_succ]
          refine wpAnyE_take (i := 5) (v := ?_) rfl (by kernel_rfl) (fun _ _ _ h => h) (Or.inl ⟨by rfl, ?_⟩) (by assumption) ?_
          rotate_left
          · (intro w hSw; (try dsimp only at hSw); go_simp; try with_reducible rfl)
          try simp only [Act.put, List.setIfInBounds_toArray, List.set_cons_zero, List.set_cons_succ]
          refine wpAnyE_take (i := 6) (v := ?_) rfl (by kernel_rfl) (fun _ _ _ h => h) (Or.inl ⟨by rfl, ?_⟩) (by assumption) ?_
          rotate_left
          · (intro w hSw; (try dsimp only at hSw); go_simp; try with_reducible rfl)
          try simp only [Act.put, List.setIfInBounds_toArray, List.set_cons_zero, List.set_cons_succ]
          refine wpAnyE_take (i := 7) (v := ?_) rfl (by kernel_rfl) (fun _ _ _ h => h) (Or.inl ⟨by rfl, ?_⟩) (by assumption) ?_
          rotate_left
          · (intro w hSw; (try dsimp only at hSw); go_simp; try with_reducible rfl)
          try simp only [Act.put, List.setIfInBounds_toArray, List.set_cons_zero, List.set_cons_succ]
          refine wpAnyE_step (i := 2) rfl (by kernel_rfl) (fun K hK => ?_)
          rw [if_pos (by rfl)]
          go_simp
          refine hK _ _ ((World.cell?_alloc_lt _ _ _ hB.box.lt).trans hHeld) (fun hHeld => ?_)
          clear hK K
          try simp only [Act.put, List.setIfInBounds_toArray, List.set_cons_zero, List.set_cons_succ]
          have hB1 := hB.drew.alloc (.cells #[.int .u8 1] 5)
          have hk1 : Blk (W.drew.alloc (.cells #[.int .u8 1] 5)) (N + 1) 5 #[.int .u8 1] := by rw [← hsz]; exact Blk.new W.drew _ _
          refine wpAnyE_step (i := 3) rfl (by kernel_rfl) (fun K hK => ?_)
          rw [if_pos (by rfl)]
          (refine wp_build hB1 (by decide) (.tmp 26) (.tmp 28) 41 rfl Try.underlying41 byte_info [1] rfl (some ⟨N + 1, 0, none⟩) 1 1 rfl _ (reads_blk1 hk1) (by omega) ?_; intro v3 w3 hB3 hg3)
          refine hK _ _ (hB3.box.cell 0) (fun hHeld => ?_)
          clear hK K
          try simp only [Act.put, List.setIfInBounds_toArray, List.set_cons_zero, List.set_cons_succ]
          refine wpAnyE_step (i := 8) rfl (by kernel_rfl) (fun K hK => ?_)
          rw [if_pos (by rfl)]
          (go_simp; go_at_call 57; refine (var_calls key.size (by omega) _).mono ?_; rintro e w4 ⟨v4, rfl, hown4, hb4⟩; have hB4 := hB3.below hb4; obtain ⟨A4, c4, hv4, hc4, hr4⟩ := Own.reads hown4; subst hv4)
          refine hK _ _ (hB4.box.cell 0) (fun hHeld => ?_)
          clear hK K
          try simp only [Act.put, List.setIfInBounds_toArray, List.set_cons_zero, List.set_cons_succ]
          refine wpAnyE_step (i := 9) rfl (by kernel_rfl) (fun K hK => ?_)
          rw [if_pos (by rfl)]
          (refine wp_build hB4 (by decide) (.tmp 29) (.tmp 34) 41 rfl Try.underlying41 byte_info (varB key.size) rfl A4 (bs (varB key.size)).length c4 rfl _ hr4 (by rw [bs_length, List.length_append]; simp only [List.length_cons, List.length_nil]; omega) ?_; intro v5 w5 hB5 hg5)
          refine hK _ _ (hB5.box.cell 0) (fun hHeld => ?_)
          clear hK K
          try simp only [Act.put, List.setIfInBounds_toArray, List.set_cons_zero, List.set_cons_succ]
          refine wpAnyE_late (i := 10) rfl (by kernel_rfl) (by kernel_rfl) (fun K hK => ?_)
          rw [if_pos (by rfl)]
          go_simp
          refine hK _ _ ?_
          clear hK K
          try simp only [Act.put, List.setIfInBounds_toArray, List.set_cons_zero, List.set_cons_succ]
          refine wpAnyE_done (by kernel_rfl) ?_ _
          go_wp2_with fail
          go_meet
          exact hB5
        case rest =>
          have c0 : wc.cell? ⟨N, 0, none⟩ = some (.string key) := hcut.box.cell 0
          have c1 : wc.cell? ⟨N, 1, none⟩ = some (.bool true) := hcut.box.cell 1
          have hkl : key.toList.length = key.size := str_length key
          have HKL := Lib.hid hkl
          clear hkl
          go_wp2_with (at_builtin; refine wpList_appendStr (w0 := w) rfl (.tmp 36) (.tmp 38) 41 9 5 rfl Try.underlying41 Try.underlying9 byte_info _ _ rfl key rfl hcut.own hcut.bel hcut.bel.size (by rw [List.length_append, List.length_append]; simp only [List.length_cons, List.length_nil]; omega) ?_; intro v6 w6 hown6 hb6 hg6; have hx6 := hcut.box.grown hg6 (fun e => own_blk_ne hcut.own hcut.box (by decide) e.symm); have e1 : w6.cell? ⟨N, 1, none⟩ = some (.bool true) := hx6.cell 1)
          go_roundw
          case rel => exact ⟨k + 1, by omega, by go_num, by rw [HSN.out]; simpa [encC] using hown6, hb6⟩
          case measure => simp [intOf]; omega
    · obtain rfl : k = xs.length := by omega
      rw [List.take_of_length_le (by simp)] at hown
      have hfin : encB (xs.map Prod.fst) = varB xs.length ++ (xs.map Prod.fst).flatMap encC := by unfold encB; rw [List.length_map]
      have HF := Lib.hid hfin
      clear hfin
      go_wp2
      go_ret2
      exact ⟨_, rfl, by rw [HF.out]; exact hown, hb⟩
end Go.Proofs.Ytmfjhejhbomlpaa
