/- The walk of a commit. -/
import Derived.Test.YtmfjhejhbomlpaaSf
import Derived.Test.YtmfjhejhbomlpaaSc
set_option linter.unusedVariables false
set_option linter.unusedSimpArgs false
namespace Go.Proofs.Ytmfjhejhbomlpaa
open Go.RowKit

theorem encode_no (w : World) (v : Value) (xs : List (Chg × Value)) (h : CL w v xs) (h0 : checkG (xs.map Prod.fst) ≠ 0) :
    Calls Try.prog 33 #[v] w fun e w' => e = .returned (.tuple #[.slice none 0 0, .int .i64 (checkG (xs.map Prod.fst) : Int)]) ∧ Below w.heap.size w w' := by
  have hck := check_calls w v xs h
  have HCK := Lib.hid hck
  obtain ⟨A, c, rfl, _⟩ := h
  generalize checkG (xs.map Prod.fst) = r at *
  have h0b : ((r : Int) != 0) = true := by rw [bne_iff_ne]; omega
  clear hck
  go_enter Try.func33, Try.ntmps33
  go_wp2_with (go_at_call 56; refine HCK.out.mono ?_; rintro e w1 ⟨rfl, hb1⟩)
  go_ret2
  exact ⟨rfl, hb1⟩

theorem commit_nil (w : World) (v : Value) : Calls Try.prog 12 #[.pointer none, v] w fun e w' => e = .returned (.int .i64 1) ∧ w = w' := by
  go_enter Try.func12, Try.ntmps12
  go_wp2
  go_ret
  exact ⟨rfl, rfl⟩
theorem commit_blank (w : World) (v : Value) (sb : Nat) (c1 c2 c3 : Value) (h : Blk w sb 67 #[.pointer none, c1, c2, c3]) : Calls Try.prog 12 #[.pointer (some ⟨sb, 0, none⟩), v] w fun e w' => e = .returned (.int .i64 1) ∧ w = w' := by
  have c0 : w.cell? ⟨sb, 0, none⟩ = some (.pointer none) := h.cell 0
  go_enter Try.func12, Try.ntmps12
  go_wp2
  go_ret
  exact ⟨rfl, rfl⟩

theorem commit_no (w : World) {B sb bd : Nat} {s : SM} {F : Nat → Prop} (h : StoreAt w B sb bd s F) (v : Value) (xs : List (Chg × Value)) (hx : CL w v xs) (h0 : checkG (xs.map Prod.fst) ≠ 0) :
    Calls Try.prog 12 #[.pointer (some ⟨sb, 0, none⟩), v] w fun e w' => e = .returned (.int .i64 (checkG (xs.map Prod.fst) : Int)) ∧ Below w.heap.size w w' := by
  obtain ⟨bl, bm, FL, hh, hl, hm, rfl⟩ := h
  have c0 : w.cell? ⟨sb, 0, none⟩ = some (.pointer (some ⟨bl, 0, none⟩)) := hh.cell 0
  have hck := encode_no w v xs hx h0
  have HCK := Lib.hid hck
  generalize checkG (xs.map Prod.fst) = r at *
  have h0b : ((r : Int) != 0) = true := by rw [bne_iff_ne]; omega
  clear hck
  go_enter Try.func12, Try.ntmps12
  go_wp2_with (go_at_call 33; refine HCK.out.mono ?_; rintro e w1 ⟨rfl, hb1⟩)
  go_ret
  exact ⟨rfl, hb1⟩

theorem append_T {l : LM} {t : List UInt8} (h : (l.append t).2 = 0) : (l.append t).1.T = l.T ++ [t] := by
  unfold LM.append at h ⊢
  split at h <;> rename_i h1
  · cases h
  rw [if_neg h1]
  split at h <;> rename_i h2
  · cases h
  rw [if_neg h2]
  split at h <;> rename_i h3
  · cases h
  rw [if_neg h3]
  split at h <;> rename_i h4
  · rw [if_pos h4]
  · exact absurd h h4
theorem append_T' {l : LM} {t : List UInt8} (h : 0 < (l.append t).2) : (l.append t).1.T = l.T := by
  unfold LM.append at h ⊢
  split <;> rename_i h1
  · rfl
  rw [if_neg h1] at h
  split <;> rename_i h2
  · rfl
  rw [if_neg h2] at h
  split <;> rename_i h3
  · rfl
  rw [if_neg h3] at h
  split <;> rename_i h4
  · rw [if_pos h4] at h
    exact absurd h (Nat.lt_irrefl 0)
  · rfl

set_option maxRecDepth 100000 in
set_option maxHeartbeats 4000000 in
theorem commit_go (w : World) {B sb bd : Nat} {s : SM} {F : Nat → Prop} (hB : B ≤ w.heap.size) (h : StoreAt w B sb bd s F) (ho : s.ok) (v : Value) (xs : List (Chg × Value)) (hx : CL w v xs) (hxa : CLa v xs F) (h0 : checkG (xs.map Prod.fst) = 0) :
    Calls Try.prog 12 #[.pointer (some ⟨sb, 0, none⟩), v] w fun e w' => e = .returned (.int .i64 ((s.commit (xs.map Prod.fst)).2 : Int)) ∧
      ∃ F', StoreAt w' B sb bd (s.commit (xs.map Prod.fst)).1 F' ∧ Sub w F F' ∧ Changed F w w' := by
  have hst := h
  obtain ⟨bl, bm, FL, hh, hl, hm, rfl⟩ := h
  have hg := check_good h0
  have hTl : s.log.T.length ≤ 4096 := by
    obtain ⟨FD, lv, vs, _, hd, _⟩ := id hl
    exact ho.log.T_len hd.ok.max
  have hby := ho.bytes
  have hso := ho.sorted
  have c0 : w.cell? ⟨sb, 0, none⟩ = some (.pointer (some ⟨bl, 0, none⟩)) := hh.cell 0
  have hen := encode_ok w v xs hx h0
  have HEN := Lib.hid hen
  have HG := Lib.hid hg
  have HXA := Lib.hid hxa
  have HST := Lib.hid hst
  have HO := Lib.hid ho
  have H0 := Lib.hid h0
  have hn16 : xs.length ≤ 16 := by have := hg.max; rwa [List.length_map] at this
  have hn1 : 1 ≤ xs.length := by have := hg.pos; rwa [List.length_map] at this
  have hvs : ∃ ad c, v = .slice (some ad) xs.length c := by
    obtain ⟨A, c, e, hc, hmx, hnx, hr, hxs⟩ := id hx
    obtain ⟨ad, e', _⟩ := hr.2 (by omega)
    exact ⟨ad, c, by rw [e, e']⟩
  obtain ⟨ad, c, rfl⟩ := hvs
  clear hen hg hxa hst ho h0
  go_enter Try.func12, Try.ntmps12
  go_upto_region 6 with (go_at_call 33; refine HEN.out.mono ?_; rintro e w1 ⟨u, rfl, hownu, hb1⟩; obtain ⟨uA, uc, hue, hucl⟩ := Own.slice hownu; rw [bs_length] at hue; subst hue)
  have d2 : w1.cell? ⟨sb, 2, none⟩ = some (.int .i64 (bytesL s.L : Int)) := (hh.below hb1 hh.lt).cell 2
  go_wp2_with fail
  clear d2
  go_loopw [34, 7] (fun i t wr => ∃ k : Nat, k ≤ xs.length ∧ i = .int .i64 (k : Int) ∧ t = .int .i64 (bytesL (doneL s.L ((xs.map Prod.fst).take k)) : Int) ∧ OwnB wr w.heap.size 5 (.slice uA (encB (xs.map Prod.fst)).length uc) (encB (xs.map Prod.fst)) ∧ Below w.heap.size w wr) (fun i _ _ => xs.length - (intOf i).toNat)
  case atStart => exact ⟨0, Nat.zero_le _, rfl, rfl, hownu, hb1⟩
  case round =>
    obtain ⟨k, hk, rfl, rfl, hown, hb⟩ := hrel
    clear hownu hb1
    have hhk := hh.below hb hh.lt
    have hmk := hm.below hb
    have hsk : SortedL (doneL s.L ((xs.map Prod.fst).take k)) := sorted_done _ _ hso
    have hbk : bytesL (doneL s.L ((xs.map Prod.fst).take k)) ≤ bytesL s.L + 4136 * 16 := by
      have := bytes_done ((xs.map Prod.fst).take k) s.L hso (fun c hc => by have := (namedB_len (HG.out.key c (List.mem_of_mem_take hc))).2; rwa [str_length] at this) (fun c hc => HG.out.val c (List.mem_of_mem_take hc))
      have h2 : ((xs.map Prod.fst).take k).length ≤ 16 := by rw [List.length_take]; omega
      omega
    by_cases hlt : k < xs.length
    · have hsn : doneL s.L ((xs.map Prod.fst).take (k + 1)) = ins xs[k].1 (doneL s.L ((xs.map Prod.fst).take k)) := by
        rw [List.take_succ_eq_append_getElem (by simpa using hlt), doneL_snoc]
        simp
      have hcoe : costL (doneL s.L ((xs.map Prod.fst).take k)) xs[k].1.key = costL s.L xs[k].1.key := by
        refine costL_done_other _ _ hso fun c hc he => ?_
        obtain ⟨j, hj, e⟩ := List.mem_take_iff_getElem.1 hc
        have hjk : j < k := by omega
        have hp := List.pairwise_iff_getElem.1 HG.out.apart j k (by simp; omega) (by simpa using hlt) hjk
        apply hp
        rw [e, he]
        simp
      obtain ⟨A', c', e', hc', hmx', hnx', hr, hxs⟩ := hx.below hb
      injection e' with e1 e2 e3
      subst e1 e3
      clear e2
      obtain ⟨ad', e', hadb, hcell⟩ := hr.2 (by omega)
      injection e' with e'
      subst e'
      have a0 : wr.cell? (ad.add (k * 3)) = some (.string xs[k].1.key) := hcell (k * 3) _ ((chc_at xs k hlt 0 (by omega)).trans rfl)
      have a1 : wr.cell? ⟨(ad.add (k * 3)).block, (ad.add (k * 3)).off + 1, none⟩ = some (.bool xs[k].1.del) := by
        rw [← addr_pos (ad.add (k * 3)) 1 (by omega), add_of_add]
        exact hcell (k * 3 + 1) _ ((chc_at xs k hlt 1 (by omega)).trans rfl)
      have a2 : wr.cell? ⟨(ad.add (k * 3)).block, (ad.add (k * 3)).off + 2, none⟩ = some xs[k].2 := by
        rw [← addr_pos (ad.add (k * 3)) 2 (by omega), add_of_add]
        exact hcell (k * 3 + 2) _ ((chc_at xs k hlt 2 (by omega)).trans rfl)
      have hmem : xs[k].1 ∈ xs.map Prod.fst := List.mem_map.2 ⟨_, List.getElem_mem hlt, rfl⟩
      have hkey := namedB_len (HG.out.key _ hmem)
      rw [str_length] at hkey
      have hval := HG.out.val _ hmem
      have hrbx := (hxs xs[k] (List.getElem_mem hlt)).1
      have hbi := bytes_ins xs[k].1 _ hsk
      rw [hcoe] at hbi
      have hnb := newL_bytes xs[k].1
      have hcl := costL_le (doneL s.L ((xs.map Prod.fst).take k)) xs[k].1.key
      rw [hcoe] at hcl
      have HSN := Lib.hid hsn
      clear hmem hcell hr hxs hsn hcoe
      generalize doneL s.L ((xs.map Prod.fst).take k) = Lk at *
      obtain ⟨x, hxk⟩ : ∃ x, xs[k].1 = x := ⟨_, rfl⟩
      obtain ⟨xv, hxv⟩ : ∃ x, xs[k].2 = x := ⟨_, rfl⟩
      rw [hxk] at a0 a1 hkey hval HSN hrbx hbi hnb hcl
      rw [hxv] at a2 hrbx
      clear hxk hxv
      obtain ⟨vA, vc, hve, hvc, hvn, hvm, hvr⟩ := hrbx
      subst hve
      unfold maxLen at hvm
      obtain ⟨key, del, val⟩ := x
      simp only at a0 a1 hkey hval hnb hcl hvc hvn hvr
      have hmk2 := hmk.below ((Below.refl _ wr).alloc (Nat.le_refl _) (.cells #[.string key, .bool del, .slice vA val.length vc] 81))
      have hhk2 := hhk.alloc (.cells #[.string key, .bool del, .slice vA val.length vc] 81)
      have hcost := cost_calls _ hhk2 hmk2 (by omega) key (by omega)
      have HCO := Lib.hid hcost
      simp only at hbi
      have hb2 := hb.alloc hb.size (.cells #[.string key, .bool del, .slice vA val.length vc] 81)
      have hown2 := Own.alloc' hown (.cells #[.string key, .bool del, .slice vA val.length vc] 81)
      clear hcost hhk hmk hhk2 hmk2
      generalize costL s.L key = k0 at *
      cases del
      · have hfin : (bytesL Lk : Int) - (k0 : Int) + ((key.size : Int) + (val.length : Int)) = (bytesL (ins ⟨key, false, val⟩ Lk) : Int) := by
          rw [if_neg (by decide)] at hnb
          omega
        have HF := Lib.hid hfin
        clear hnb hbi hfin
        generalize bytesL Lk = u0 at *
        go_wp2_with (go_at_call 34; refine HCO.out.mono ?_; rintro e w' ⟨rfl, rfl⟩)
        go_roundw
        case rel => exact ⟨k + 1, by omega, by go_num, by rw [HSN.out, ← HF.out], hown2, hb2⟩
        case measure => simp [intOf]; omega
      · have hfin : (bytesL Lk : Int) - (k0 : Int) = (bytesL (ins ⟨key, true, val⟩ Lk) : Int) := by
          rw [if_pos rfl] at hnb
          omega
        have HF := Lib.hid hfin
        clear hnb hbi hfin
        generalize bytesL Lk = u0 at *
        go_wp2_with (go_at_call 34; refine HCO.out.mono ?_; rintro e w' ⟨rfl, rfl⟩)
        go_roundw
        case rel => exact ⟨k + 1, by omega, by go_num, by rw [HSN.out, ← HF.out], hown2, hb2⟩
        case measure => simp [intOf]; omega
    · obtain rfl : k = xs.length := by omega
      rw [List.take_of_length_le (by simp)] at hbk hsk
      rw [List.take_of_length_le (by simp)]
      have hhr := hh.below hb hh.lt
      have hmr := hm.below hb
      have hlr := hl.below hb
      have d0 : wr.cell? ⟨sb, 0, none⟩ = some (.pointer (some ⟨bl, 0, none⟩)) := hhr.cell 0
      have d1 : wr.cell? ⟨sb, 1, none⟩ = some (.int .i64 s.q) := hhr.cell 1
      have d2 : wr.cell? ⟨sb, 2, none⟩ = some (.int .i64 (bytesL s.L : Int)) := hhr.cell 2
      have hel : (encB (xs.map Prod.fst)).length ≤ 140737488351232 := by
        unfold encB
        rw [List.length_append]
        have h1 := flat_len (xs.map Prod.fst) (fun c hc => encC_len (HG.out.key c hc) (HG.out.val c hc))
        have h2 := varB_len 1 (xs.map Prod.fst).length (by omega) (by rw [List.length_map]; omega)
        rw [List.length_map] at h1
        omega
      have hap := append_at wr (Nat.le_trans hB hb.size) hlr HO.out.log _ _ (OwnB.rb hown hel) (fun j hj hf => by
        have h1 := Own.lo hown j hj
        have h2 := hl.lt j hf
        omega)
      have HAP := Lib.hid hap
      have hbsz := hb.size
      have hstay : StoreAt wr B sb bd s (fun k => FL k ∨ sfoot sb bm k) := HST.out.below hb
      have HSTAY := Lib.hid hstay
      obtain ⟨t0, ht0⟩ : ∃ t0, bytesL (doneL s.L (xs.map Prod.fst)) = t0 := ⟨_, rfl⟩
      have hcm : s.commit (xs.map Prod.fst) = if s.q < (t0 : Int) ∧ bytesL s.L < t0 then (s, 12) else if (s.log.append (encB (xs.map Prod.fst))).2 = 0 then (⟨(s.log.append (encB (xs.map Prod.fst))).1, doneL s.L (xs.map Prod.fst), s.q⟩, 0) else (⟨(s.log.append (encB (xs.map Prod.fst))).1, s.L, s.q⟩, (s.log.append (encB (xs.map Prod.fst))).2) := by
        unfold SM.commit
        rw [if_neg (by rw [H0.out]; decide), ht0]
      rw [ht0] at hbk ⊢
      have HT0 := Lib.hid ht0
      clear hap hel hstay ht0 hown
      by_cases hq : s.q < (t0 : Int) ∧ bytesL s.L < t0
      · rw [if_pos hq] at hcm
        have HCM := Lib.hid hcm
        obtain ⟨hq1, hq2⟩ := hq
        have hq3 : (bytesL s.L : Int) < (t0 : Int) := by omega
        clear hcm hq2
        go_wp2
        go_ret
        rw [HCM.out]
        exact ⟨rfl, _, HSTAY.out, Sub.refl _ _, Changed.of_below hb⟩
      · rw [if_neg hq] at hcm
        have hor : (t0 : Int) ≤ s.q ∨ (s.q < (t0 : Int) ∧ (t0 : Int) ≤ (bytesL s.L : Int)) := by omega
        clear hq
        rcases Nat.eq_zero_or_pos (s.log.append (encB (xs.map Prod.fst))).2 with hz | hz
        · rw [if_pos hz] at hcm
          have hTT := append_T hz
          have HZ := Lib.hid hz
          have HCM := Lib.hid hcm
          have HTT := Lib.hid hTT
          clear hcm hz hTT
          rcases hor with hqa | ⟨hqa, hqb⟩
          all_goals
            go_wp2_with (first
              | (go_at_call 35; refine HAP.out.mono ?_; rintro e w3 ⟨rfl, F3, hl3, hs3, hc3⟩; rw [HZ.out])
              | (go_at_call 32; refine (do_calls w3 (Nat.le_trans hB (Nat.le_trans hbsz hc3.size)) (hhr.frame hc3 (fun e => hlr.noTy 67 (by decide) (by decide) (by decide) (by decide) (by decide) _ e hhr.ty)) (hmr.changed hc3 (hlr.noTy _) (fun e => by rcases hlr.ty _ e with h | h | h | h | h <;> exact hmr.noTy _ h)) hso (by omega) (by omega) _ xs ((hx.below hb).frame hc3 (HXA.out.mono fun j hj => .inl hj)) HG.out (HXA.out.mono fun j hj => .inr hj)).mono ?_; rintro e w4 ⟨rfl, hh4, hm4, hc4⟩))
            go_ret
            rw [HCM.out]
            refine ⟨rfl, fun k => F3 k ∨ sfoot sb bm k, ⟨bl, bm, F3, hh4, hl3.changed hc4 (fun k hk hs => ?_) (fun k hk ht => ?_), hm4.mono (by rw [HTT.out, List.length_append]; simp only [List.length_cons, List.length_nil]; omega), rfl⟩, fun k hk => ?_, ?_⟩
            · rcases hs with rfl | rfl
              · exact hl3.noTy 67 (by decide) (by decide) (by decide) (by decide) (by decide) _ hk ((hhr.frame hc3 (fun e => hlr.noTy 67 (by decide) (by decide) (by decide) (by decide) (by decide) _ e hhr.ty)).ty)
              · have hm3 := hmr.changed hc3 (hlr.noTy _) (fun e => by rcases hlr.ty _ e with h | h | h | h | h <;> exact hmr.noTy _ h)
                rcases hl3.ty _ hk with h | h | h | h | h <;> exact hm3.noTy _ h
            · rcases hk with rfl | rfl
              · exact absurd ((hhr.frame hc3 (fun e => hlr.noTy 67 (by decide) (by decide) (by decide) (by decide) (by decide) _ e hhr.ty)).ty.uniq ht) (by decide)
              · exact (hmr.changed hc3 (hlr.noTy _) (fun e => by rcases hlr.ty _ e with h | h | h | h | h <;> exact hmr.noTy _ h)).noTy _ ht
            · rcases hk with hk | hk
              · rcases hs3 k hk with h | h
                · exact .inl (.inl h)
                · exact .inr (by omega)
              · exact .inl (.inr hk)
            · exact ((Changed.of_below hb).trans hc3 (fun k hk => .inl (.inl hk))).trans hc4 (fun k hk => .inl (.inr hk))
        · rw [if_neg (by omega)] at hcm
          have hzb : (((s.log.append (encB (xs.map Prod.fst))).2 : Int) != 0) = true := by rw [bne_iff_ne]; omega
          have hTT := append_T' hz
          have HCM := Lib.hid hcm
          have HTT := Lib.hid hTT
          clear hcm hTT
          rcases hor with hqa | ⟨hqa, hqb⟩
          all_goals
            go_wp2_with (go_at_call 35; refine HAP.out.mono ?_; rintro e w3 ⟨rfl, F3, hl3, hs3, hc3⟩)
            go_ret
            rw [HCM.out]
            refine ⟨rfl, fun k => F3 k ∨ sfoot sb bm k, ⟨bl, bm, F3, hhr.frame hc3 (fun e => hlr.noTy 67 (by decide) (by decide) (by decide) (by decide) (by decide) _ e hhr.ty), hl3, ?_, rfl⟩, fun k hk => ?_, ?_⟩
            · have := hmr.changed hc3 (hlr.noTy _) (fun e => by rcases hlr.ty _ e with h | h | h | h | h <;> exact hmr.noTy _ h)
              exact this.mono (by rw [HTT.out]; exact Nat.le_refl _)
            · rcases hk with hk | hk
              · rcases hs3 k hk with h | h
                · exact .inl (.inl h)
                · exact .inr (by omega)
              · exact .inl (.inr hk)
            · exact (Changed.of_below hb).trans hc3 (fun k hk => .inl (.inl hk))
/-- A commit, whole. -/
theorem commit_at (w : World) {B sb bd : Nat} {s : SM} {F : Nat → Prop} (hB : B ≤ w.heap.size) (h : StoreAt w B sb bd s F) (ho : s.ok) (v : Value) (xs : List (Chg × Value)) (hx : CL w v xs) (hxa : CLa v xs F) :
    Calls Try.prog 12 #[.pointer (some ⟨sb, 0, none⟩), v] w fun e w' => e = .returned (.int .i64 ((s.commit (xs.map Prod.fst)).2 : Int)) ∧
      ∃ F', StoreAt w' B sb bd (s.commit (xs.map Prod.fst)).1 F' ∧ Sub w F F' ∧ Changed F w w' := by
  by_cases h0 : checkG (xs.map Prod.fst) = 0
  · exact commit_go w hB h ho v xs hx hxa h0
  · have e : s.commit (xs.map Prod.fst) = (s, checkG (xs.map Prod.fst)) := by unfold SM.commit; rw [if_pos h0]
    rw [e]
    refine (commit_no w h v xs hx h0).mono ?_
    rintro e w' ⟨rfl, hb⟩
    exact ⟨rfl, F, h.below hb, Sub.refl _ _, Changed.of_below hb⟩
end Go.Proofs.Ytmfjhejhbomlpaa
