/- The walk that does changes to a store in memory. -/
import Derived.Test.YtmfjhejhbomlpaaSd
set_option linter.unusedVariables false
set_option linter.unusedSimpArgs false
namespace Go.Proofs.Ytmfjhejhbomlpaa
open Go.RowKit

/-- Changes that lie in none of certain blocks. -/
def CLa (v : Value) (xs : List (Chg × Value)) (S : Nat → Prop) : Prop := Away v S ∧ ∀ x ∈ xs, Away x.2 S
theorem CL.frame {S : Nat → Prop} {w w' : World} {v : Value} {xs : List (Chg × Value)} (h : CL w v xs) (hc : Changed S w w') (ha : CLa v xs S) : CL w' v xs := by
  obtain ⟨A, c, rfl, h1, h2, h3, hr, hxs⟩ := h
  exact ⟨A, c, rfl, h1, h2, h3, (hr.frame (Nat.le_refl _) hc ha.1).more hc.size, fun x hx => ⟨(hxs x hx).1.frame hc (ha.2 x hx), (hxs x hx).2⟩⟩
theorem CLa.mono {v : Value} {xs : List (Chg × Value)} {S T : Nat → Prop} (h : CLa v xs T) (hS : ∀ k, S k → T k) : CLa v xs S := ⟨h.1.mono hS, fun x hx => (h.2 x hx).mono hS⟩
theorem doneL_snoc (L : List Pr) (cs : List Chg) (c : Chg) : doneL L (cs ++ [c]) = ins c (doneL L cs) := by simp [doneL]
theorem costL_ins {L : List Pr} (hs : SortedL L) (c : Chg) : costL (ins c L) c.key = bytesL (newL c) := by
  unfold costL
  rw [getL_ins c L hs, if_pos rfl, newL_bytes]
  cases c.del <;> rfl
theorem bytes_done : ∀ (cs : List Chg) (L : List Pr), SortedL L → (∀ c ∈ cs, c.key.size ≤ 40) → (∀ c ∈ cs, c.val.length ≤ 4096) → bytesL (doneL L cs) ≤ bytesL L + 4136 * cs.length
  | [], L, _, _, _ => by simp [doneL]
  | c :: cs, L, hs, h1, h2 => by
    have ih := bytes_done cs (ins c L) (sorted_ins c L hs) (fun x hx => h1 x (by simp [hx])) (fun x hx => h2 x (by simp [hx]))
    have hb := bytes_ins c L hs
    have hn := newL_bytes c
    have a := h1 c (by simp)
    have b := h2 c (by simp)
    have : bytesL (newL c) ≤ 4136 := by rw [hn]; split <;> omega
    show bytesL (doneL (ins c L) cs) ≤ _
    rw [List.length_cons]
    omega
/-- The store's own blocks. -/
def sfoot (sb bm : Nat) (k : Nat) : Prop := k = sb ∨ k = bm

set_option maxRecDepth 100000 in
set_option maxHeartbeats 4000000 in
theorem do_calls (w : World) {B sb bl bm n : Nat} {q : Int} {L : List Pr} (hB : B ≤ w.heap.size) (hh : Blk w sb 67 (stC bl bm q (bytesL L : Int))) (hm : MapB w B bm n L) (hs : SortedL L) (hL : bytesL L ≤ 1000000000000) (hn : n ≤ 1000000000000)
    (v : Value) (xs : List (Chg × Value)) (h : CL w v xs) (hg : GoodC (xs.map Prod.fst)) (ha : CLa v xs (sfoot sb bm)) :
    Calls Try.prog 32 #[.pointer (some ⟨sb, 0, none⟩), v] w fun e w' => e = .returned (.tuple #[]) ∧
      Blk w' sb 67 (stC bl bm q (bytesL (doneL L (xs.map Prod.fst)) : Int)) ∧ MapB w' B bm (n + xs.length) (doneL L (xs.map Prod.fst)) ∧ Changed (sfoot sb bm) w w' := by
  have hn16 : xs.length ≤ 16 := by have := hg.max; rwa [List.length_map] at this
  have hn1 : 1 ≤ xs.length := by have := hg.pos; rwa [List.length_map] at this
  have HG := Lib.hid hg
  have HCL := Lib.hid h
  have HA := Lib.hid ha
  obtain ⟨A, c, rfl, hc, hmx, hnx, hr, hxs⟩ := h
  have hAd : A.isSome := by obtain ⟨ad, e, _⟩ := hr.2 (by omega); rw [e]; rfl
  obtain ⟨ad, rfl⟩ := Option.isSome_iff_exists.1 hAd
  clear hg ha hxs hr hAd
  go_enter Try.func32, Try.ntmps32
  go_wp2
  go_loopw [8] (fun i wr => ∃ k : Nat, k ≤ xs.length ∧ i = .int .i64 (k : Int) ∧ Blk wr sb 67 (stC bl bm q (bytesL (doneL L ((xs.map Prod.fst).take k)) : Int)) ∧ MapB wr B bm (n + k) (doneL L ((xs.map Prod.fst).take k)) ∧ Changed (sfoot sb bm) w wr) (fun i _ => xs.length - (intOf i).toNat)
  case atStart => exact ⟨0, Nat.zero_le _, rfl, hh, hm, Changed.refl _ _⟩
  case round =>
    obtain ⟨k, hk, rfl, hhk, hmk, hck⟩ := hrel
    clear hh hm
    have hsk : SortedL (doneL L ((xs.map Prod.fst).take k)) := sorted_done _ _ hs
    have hbk : bytesL (doneL L ((xs.map Prod.fst).take k)) ≤ 1000000000000 + 4136 * 16 := by
      have := bytes_done ((xs.map Prod.fst).take k) L hs (fun c hc => by have := (namedB_len (HG.out.key c (List.mem_of_mem_take hc))).2; rwa [str_length] at this) (fun c hc => HG.out.val c (List.mem_of_mem_take hc))
      have h2 : ((xs.map Prod.fst).take k).length ≤ 16 := by rw [List.length_take]; omega
      omega
    by_cases hlt : k < xs.length
    · have hsn : doneL L ((xs.map Prod.fst).take (k + 1)) = ins xs[k].1 (doneL L ((xs.map Prod.fst).take k)) := by
        rw [List.take_succ_eq_append_getElem (by simpa using hlt), doneL_snoc]
        simp
      have HSN := Lib.hid hsn
      clear hsn
      generalize doneL L ((xs.map Prod.fst).take k) = Lk at *
      obtain ⟨A', c', e', hc', hmx', hnx', hr, hxs⟩ := HCL.out.frame hck HA.out
      injection e' with e1 e2 e3
      subst e1 e3
      clear e2
      obtain ⟨ad', e', hadb, hcell⟩ := hr.2 (by omega)
      injection e' with e'
      subst e'
      have a0 : wr.cell? (ad.add (k * 3)) = some (.string xs[k].1.key) := hcell (k * 3) _ ((chc_at xs k hlt 0 (by omega)).trans rfl)
      have a1 : wr.cell? ⟨(ad.add (k * 3)).block, (ad.add (k * 3)).off + 1, none⟩ = some (.bool xs[k].1.del) := by
        rw [← addr_pos (ad.add (k * 3)) 1 (by omega), add_of_add]
        exact hcell (k * 3 + 1) _ ((chc_at xs k hlt 1 (by omega)).trans rfl)
      have a2 : wr.cell? ⟨(ad.add (k * 3)).block, (ad.add (k * 3)).off + 2, none⟩ = some xs[k].2 := by
        rw [← addr_pos (ad.add (k * 3)) 2 (by omega), add_of_add]
        exact hcell (k * 3 + 2) _ ((chc_at xs k hlt 2 (by omega)).trans rfl)
      have hmem : xs[k].1 ∈ xs.map Prod.fst := List.mem_map.2 ⟨_, List.getElem_mem hlt, rfl⟩
      have hkey := namedB_len (HG.out.key _ hmem)
      rw [str_length] at hkey
      have hval := HG.out.val _ hmem
      have hrbx := (hxs xs[k] (List.getElem_mem hlt)).1
      have hawx := HA.out.2 xs[k] (List.getElem_mem hlt)
      have hbi := bytes_ins xs[k].1 Lk hsk
      have hci := costL_ins hsk xs[k].1
      have hnb := newL_bytes xs[k].1
      have hcl := costL_le Lk xs[k].1.key
      clear hmem hcell hr hxs
      obtain ⟨x, hxk⟩ : ∃ x, xs[k].1 = x := ⟨_, rfl⟩
      obtain ⟨xv, hxv⟩ : ∃ x, xs[k].2 = x := ⟨_, rfl⟩
      rw [hxk] at a0 a1 hkey hval HSN hrbx hbi hci hnb hcl
      rw [hxv] at a2 hrbx hawx
      clear hxk hxv
      obtain ⟨vA, vc, hve, hvc, hvn, hvm, hvr⟩ := id hrbx
      subst hve
      unfold maxLen at hvm
      have hcost := fun W (h1 : Blk W sb 67 (stC bl bm q (bytesL Lk : Int))) (h2 : MapB W B bm (n + k) Lk) => cost_calls W h1 h2 (by omega) x.key (by omega)
      have HCO := Lib.hid hcost
      have hnb4 : bytesL (newL x) ≤ 4136 := by rw [hnb]; split <;> omega
      have hL2 : bytesL (ins x Lk) ≤ 2000000000000 := by
        have : bytesL (newL x) ≤ 4136 := by rw [hnb]; split <;> omega
        omega
      have hcost2 := fun W q2 (h1 : Blk W sb 67 (stC bl bm q q2)) m (h2 : MapB W B bm m (ins x Lk)) => cost_calls W h1 h2 (by omega) x.key (by omega)
      rw [hci] at hcost2
      obtain ⟨nb, hnbe⟩ : ∃ nb, bytesL (newL x) = nb := ⟨_, rfl⟩
      rw [hnbe] at hcost2 hbi hnb4
      have HCO2 := Lib.hid hcost2
      have HBI := Lib.hid hbi
      clear hcost hcost2 hci hnb hbi hnbe
      obtain ⟨u0, hu0⟩ : ∃ u, bytesL Lk = u := ⟨_, rfl⟩
      obtain ⟨k0, hk0⟩ : ∃ u, costL Lk x.key = u := ⟨_, rfl⟩
      rw [hu0, hk0] at HCO
      rw [hu0] at hhk hbk HBI hcl
      rw [hk0] at hcl HBI
      clear hu0 hk0
      obtain ⟨key, del, val⟩ := x
      simp only at a0 a1 hkey hval hrbx
      go_upto_region 3 with fail
      obtain ⟨N, hN⟩ : ∃ N, wr.heap.size = N := ⟨_, rfl⟩
      have hbx : Blk (wr.alloc (.cells #[.string key, .bool del, .slice vA val.length vc] 81)) N 81 #[.string key, .bool del, .slice vA val.length vc] := by rw [← hN]; exact Blk.new _ _ _
      have hh1 := hhk.alloc (.cells #[.string key, .bool del, .slice vA val.length vc] 81)
      have hm1 := hmk.below ((Below.refl _ wr).alloc (Nat.le_refl _) (.cells #[.string key, .bool del, .slice vA val.length vc] 81))
      have hc1 : Changed (sfoot sb bm) w (wr.alloc (.cells #[.string key, .bool del, .slice vA val.length vc] 81)) := hck.trans (Changed.alloc (S := fun _ => False) _ _) (fun _ h => h.elim)
      have hr1 := hrbx.alloc (.cells #[.string key, .bool del, .slice vA val.length vc] 81)
      rw [hN]
      generalize wr.alloc (.cells #[.string key, .bool del, .slice vA val.length vc] 81) = w1 at *
      clear hhk hmk hck hrbx hvr hN a0 a1 a2
      have hwr : IntKind.i64.wrap ((u0 : Int) - (k0 : Int)) = ((u0 - k0 : Nat) : Int) := by rw [IntWalk.i64_in _ (by omega)]; omega
      refine wp_region_E (S := fun w' => w'.cell? ⟨sb, 2, none⟩ = some (.int .i64 (u0 : Int)) ∧ w'.frozen? ⟨sb, 2, none⟩ = false ∧ w'.cell? ⟨N, 0, none⟩ = some (.string key)) (late := [11]) (by kernel_rfl) ⟨hh1.cell 2, hh1.frozen 2, hbx.cell 0⟩ (fun hHeld => ?_)
      refine wpAnyE_take (i := 0) (v := ?_) rfl (by kernel_rfl) (fun _ _ _ h => h) (Or.inl ⟨by rfl, ?_⟩) (by assumption) ?_
      rotate_left
      · (intro w hSw; (try dsimp only at hSw); go_simp; try with_reducible rfl)
      try simp only [Act.put, List.setIfInBounds_toArray, List.set_cons_zero, List.set_cons_succ]
      refine wpAnyE_take (i := 1) (v := ?_) rfl (by kernel_rfl) (fun _ _ _ h => h) (Or.inl ⟨by rfl, ?_⟩) (by assumption) ?_
      rotate_left
      · (intro w hSw; (try dsimp only at hSw); go_simp; try with_reducible rfl)
      try simp only [Act.put, List.setIfInBounds_toArray, List.set_cons_zero, List.set_cons_succ]
      refine wpAnyE_take (i := 2) (v := ?_) rfl (by kernel_rfl) (fun _ _ _ h => h) (Or.inl ⟨by rfl, ?_⟩) (by assumption) ?_
      rotate_left
      · (intro w hSw; (try dsimp only at hSw); go_simp; try with_reducible rfl)
      try simp only [Act.put, List.setIfInBounds_toArray, List.set_cons_zero, List.set_cons_succ]
      refine wpAnyE_take (i := 3) (v := ?_) rfl (by kernel_rfl) (fun _ _ _ h => h) (Or.inl ⟨by rfl, ?_⟩) (by assumption) ?_
      rotate_left
      · (intro w hSw; (try dsimp only at hSw); go_simp; try with_reducible rfl)
      try simp only [Act.put, List.setIfInBounds_toArray, List.set_cons_zero, List.set_cons_succ]
      refine wpAnyE_take (i := 4) (v := ?_) rfl (by kernel_rfl) (fun _ _ _ h => h) (Or.inl ⟨by rfl, ?_⟩) (by assumption) ?_
      rotate_left
      · (intro w hSw; (try dsimp only at hSw); go_simp; try with_reducible rfl)
      try simp only [Act.put, List.setIfInBounds_toArray, List.set_cons_zero, List.set_cons_succ]
      refine wpAnyE_take (i := 5) (v := ?_) rfl (by kernel_rfl) (fun _ _ _ h => h) (Or.inl ⟨by rfl, ?_⟩) (by assumption) ?_
      rotate_left
      · (intro w hSw; (try dsimp only at hSw); go_simp; try with_reducible rfl)
      try simp only [Act.put, List.setIfInBounds_toArray, List.set_cons_zero, List.set_cons_succ]
      refine wpAnyE_take (i := 6) (v := ?_) rfl (by kernel_rfl) (fun _ _ _ h => h) (Or.inl ⟨by rfl, ?_⟩) (by assumption) ?_
      rotate_left
      · (intro w hSw; (try dsimp only at hSw); go_simp; try with_reducible rfl)
      try simp only [Act.put, List.setIfInBounds_toArray, List.set_cons_zero, List.set_cons_succ]
      refine wpAnyE_step (i := 7) rfl (by kernel_rfl) (fun K hK => ?_)
      rw [if_pos (by rfl)]
      (go_simp; go_at_call 34; refine (HCO.out w1.drew hh1.drew hm1.drew).mono ?_; rintro e w' ⟨rfl, rfl⟩)
      refine hK _ _ hHeld (fun hHeld => ?_)
      clear hK K
      try simp only [Act.put, List.setIfInBounds_toArray, List.set_cons_zero, List.set_cons_succ]
      refine wpAnyE_step (i := 8) rfl (by kernel_rfl) (fun K hK => ?_)
      rw [if_pos (by rfl)]
      go_simp
      refine hK _ _ hHeld (fun hHeld => ?_)
      clear hK K
      try simp only [Act.put, List.setIfInBounds_toArray, List.set_cons_zero, List.set_cons_succ]
      refine wpAnyE_step (i := 9) rfl (by kernel_rfl) (fun K hK => ?_)
      rw [if_pos (by rfl)]
      go_simp
      refine hK _ _ hHeld (fun hHeld => ?_)
      clear hK K
      try simp only [Act.put, List.setIfInBounds_toArray, List.set_cons_zero, List.set_cons_succ]
      refine wpAnyE_step (i := 10) rfl (by kernel_rfl) (fun K hK => ?_)
      rw [if_pos (by rfl)]
      go_simp
      refine hK _ _ hHeld (fun hHeld => ?_)
      clear hK K
      try simp only [Act.put, List.setIfInBounds_toArray, List.set_cons_zero, List.set_cons_succ]
      refine wpAnyE_late (i := 11) rfl (by kernel_rfl) (by kernel_rfl) (fun K hK => ?_)
      rw [if_pos (by rfl)]
      go_simp
      refine hK _ _ ?_
      clear hK K
      try simp only [Act.put, List.setIfInBounds_toArray, List.set_cons_zero, List.set_cons_succ]
      refine wpAnyE_done (by kernel_rfl) ?_ _
      have hh2 : Blk ((w1.setCell ⟨sb, 2, none⟩ (.int .i64 ((u0 - k0 : Nat) : Int))).drew) sb 67 (stC bl bm q ((u0 - k0 : Nat) : Int)) := by simpa [stC] using (hh1.set_ 2 (.int .i64 ((u0 - k0 : Nat) : Int))).drew
      have hcs : Changed (· = sb) w1 ((w1.setCell ⟨sb, 2, none⟩ (.int .i64 ((u0 - k0 : Nat) : Int))).drew) := (Changed.setCell (S := (· = sb)) _ ⟨sb, 2, none⟩ _ rfl).drew
      have hsbm : bm ≠ sb := fun e => hm1.noTy 67 (e ▸ hh1.ty)
      have hm2 := hm1.changed hcs (NoTy.one hh1.ty (by decide)) hsbm
      have hbx2 := hbx.changed hcs (NoTy.one hh1.ty (by decide))
      have hr2 := hr1.frame hcs (fun j hj e => hawx j hj (.inl e))
      have hc2 := hc1.trans hcs (fun j hj => .inl (.inl hj))
      clear hh1 hm1 hbx hr1 hc1 hwr
      generalize (w1.setCell ⟨sb, 2, none⟩ (.int .i64 ((u0 - k0 : Nat) : Int))).drew = w2 at *
      cases del
      · -- del false
        have d1 : w2.cell? ⟨N, 1, none⟩ = some (.bool false) := hbx2.cell 1
        go_upto_region 6 with fail
        refine wp_region_E (S := fun w' => w'.cell? ⟨sb, 3, none⟩ = some (.map (some bm)) ∧ w'.cell? ⟨N, 0, none⟩ = some (.string key) ∧ w'.cell? ⟨N, 2, none⟩ = some (.slice vA val.length vc)) (late := [9]) (by kernel_rfl) ⟨hh2.cell 3, hbx2.cell 0, hbx2.cell 2⟩ (fun hHeld => ?_)
        refine wpAnyE_take (i := 0) (v := ?_) rfl (by kernel_rfl) (fun _ _ _ h => h) (Or.inl ⟨by rfl, ?_⟩) (by assumption) ?_
        rotate_left
        · (intro w hSw; (try dsimp only at hSw); go_simp; try with_reducible rfl)
        try simp only [Act.put, List.setIfInBounds_toArray, List.set_cons_zero, List.set_cons_succ]
        refine wpAnyE_take (i := 1) (v := ?_) rfl (by kernel_rfl) (fun _ _ _ h => h) (Or.inl ⟨by rfl, ?_⟩) (by assumption) ?_
        rotate_left
        · (intro w hSw; (try dsimp only at hSw); go_simp; try with_reducible rfl)
        try simp only [Act.put, List.setIfInBounds_toArray, List.set_cons_zero, List.set_cons_succ]
        refine wpAnyE_take (i := 2) (v := ?_) rfl (by kernel_rfl) (fun _ _ _ h => h) (Or.inl ⟨by rfl, ?_⟩) (by assumption) ?_
        rotate_left
        · (intro w hSw; (try dsimp only at hSw); go_simp; try with_reducible rfl)
        try simp only [Act.put, List.setIfInBounds_toArray, List.set_cons_zero, List.set_cons_succ]
        refine wpAnyE_take (i := 3) (v := ?_) rfl (by kernel_rfl) (fun _ _ _ h => h) (Or.inl ⟨by rfl, ?_⟩) (by assumption) ?_
        rotate_left
        · (intro w hSw; (try dsimp only at hSw); go_simp; try with_reducible rfl)
        try simp only [Act.put, List.setIfInBounds_toArray, List.set_cons_zero, List.set_cons_succ]
        refine wpAnyE_take (i := 4) (v := ?_) rfl (by kernel_rfl) (fun _ _ _ h => h) (Or.inl ⟨by rfl, ?_⟩) (by assumption) ?_
        rotate_left
        · (intro w hSw; (try dsimp only at hSw); go_simp; try with_reducible rfl)
        try simp only [Act.put, List.setIfInBounds_toArray, List.set_cons_zero, List.set_cons_succ]
        refine wpAnyE_take (i := 5) (v := ?_) rfl (by kernel_rfl) (fun _ _ _ h => h) (Or.inl ⟨by rfl, ?_⟩) (by assumption) ?_
        rotate_left
        · (intro w hSw; (try dsimp only at hSw); go_simp; try with_reducible rfl)
        try simp only [Act.put, List.setIfInBounds_toArray, List.set_cons_zero, List.set_cons_succ]
        refine wpAnyE_take (i := 6) (v := ?_) rfl (by kernel_rfl) (fun _ _ _ h => h) (Or.inl ⟨by rfl, ?_⟩) (by assumption) ?_
        rotate_left
        · (intro w hSw; (try dsimp only at hSw); go_simp; try with_reducible rfl)
        try simp only [Act.put, List.setIfInBounds_toArray, List.set_cons_zero, List.set_cons_succ]
        refine wpAnyE_take (i := 7) (v := ?_) rfl (by kernel_rfl) (fun _ _ _ h => h) (Or.inl ⟨by rfl, ?_⟩) (by assumption) ?_
        rotate_left
        · (intro w hSw; (try dsimp only at hSw); go_simp; try with_reducible rfl)
        try simp only [Act.put, List.setIfInBounds_toArray, List.set_cons_zero, List.set_cons_succ]
        refine wpAnyE_step (i := 8) rfl (by kernel_rfl) (fun K hK => ?_)
        rw [if_pos (by rfl)]
        (go_simp; go_at_call 47; refine (clone_calls _ _ _ (hr2.drewN 1)).mono ?_; rintro e w8 ⟨v8, rfl, hown8, hb8⟩; have hh8 := hh2.drew.below hb8 hh2.lt; have hbx8 := hbx2.drew.below hb8 hbx2.lt; have hm8 := hm2.drew.below hb8; have hc8 := hc2.drew.trans (Changed.of_below (S := fun _ => False) hb8) (fun _ h => h.elim))
        refine hK _ _ ⟨hh8.cell 3, hbx8.cell 0, hbx8.cell 2⟩ (fun hHeld => ?_)
        clear hK K
        try simp only [Act.put, List.setIfInBounds_toArray, List.set_cons_zero, List.set_cons_succ]
        refine wpAnyE_late (i := 9) rfl (by kernel_rfl) (by kernel_rfl) (fun K hK => ?_)
        rw [if_pos (by rfl)]
        (refine wp_mapUpdate (.tmp 34) (.tmp 36) (.tmp 39) rfl rfl hm8 hsk (by unfold maxLen; omega) ⟨key, false, val⟩ (show key.size ≤ maxLen by unfold maxLen; omega) rfl v8 rfl rfl (Own.low hown8 (Nat.le_trans hB hc2.size)) ?_; intro w3 hm3 hcm3)
        refine hK _ _ ?_
        clear hK K
        try simp only [Act.put, List.setIfInBounds_toArray, List.set_cons_zero, List.set_cons_succ]
        refine wpAnyE_done (by kernel_rfl) ?_ _
        have hh4 := hh8.frame hcm3 (fun e => hsbm e.symm)
        have hbx4 := hbx8.frame hcm3 (fun e => hm8.noTy 81 (e ▸ hbx8.ty))
        have hm4 := hm3
        have hc4 := hc8.trans hcm3 (fun j hj => .inl (.inr hj))
        clear hh2 hm2 hbx2 hr2 hc2 hm3 hcm3 hh8 hbx8 hm8 hc8
        go_upto_region 7 with fail
        have hwr7 : IntKind.i64.wrap (((u0 - k0 : Nat) : Int) + (nb : Int)) = ((u0 - k0 + nb : Nat) : Int) := by rw [IntWalk.i64_in _ (by omega)]; omega
        refine wp_region_E (S := fun w' => w'.cell? ⟨sb, 2, none⟩ = some (.int .i64 ((u0 - k0 : Nat) : Int)) ∧ w'.frozen? ⟨sb, 2, none⟩ = false ∧ w'.cell? ⟨N, 0, none⟩ = some (.string key)) (late := [11]) (by kernel_rfl) ⟨hh4.cell 2, hh4.frozen 2, hbx4.cell 0⟩ (fun hHeld => ?_)
        refine wpAnyE_take (i := 0) (v := ?_) rfl (by kernel_rfl) (fun _ _ _ h => h) (Or.inl ⟨by rfl, ?_⟩) (by assumption) ?_
        rotate_left
        · (intro w hSw; (try dsimp only at hSw); go_simp; try with_reducible rfl)
        try simp only [Act.put, List.setIfInBounds_toArray, List.set_cons_zero, List.set_cons_succ]
        refine wpAnyE_take (i := 1) (v := ?_) rfl (by kernel_rfl) (fun _ _ _ h => h) (Or.inl ⟨by rfl, ?_⟩) (by assumption) ?_
        rotate_left
        · (intro w hSw; (try dsimp only at hSw); go_simp; try with_reducible rfl)
        try simp only [Act.put, List.setIfInBounds_toArray, List.set_cons_zero, List.set_cons_succ]
        refine wpAnyE_take (i := 2) (v := ?_) rfl (by kernel_rfl) (fun _ _ _ h => h) (Or.inl ⟨by rfl, ?_⟩) (by assumption) ?_
        rotate_left
        · (intro w hSw; (try dsimp only at hSw); go_simp; try with_reducible rfl)
        try simp only [Act.put, List.setIfInBounds_toArray, List.set_cons_zero, List.set_cons_succ]
        refine wpAnyE_take (i := 3) (v := ?_) rfl (by kernel_rfl) (fun _ _ _ h => h) (Or.inl ⟨by rfl, ?_⟩) (by assumption) ?_
        rotate_left
        · (intro w hSw; (try dsimp only at hSw); go_simp; try with_reducible rfl)
        try simp only [Act.put, List.setIfInBounds_toArray, List.set_cons_zero, List.set_cons_succ]
        refine wpAnyE_take (i := 4) (v := ?_) rfl (by kernel_rfl) (fun _ _ _ h => h) (Or.inl ⟨by rfl, ?_⟩) (by assumption) ?_
        rotate_left
        · (intro w hSw; (try dsimp only at hSw); go_simp; try with_reducible rfl)
        try simp only [Act.put, List.setIfInBounds_toArray, List.set_cons_zero, List.set_cons_succ]
        refine wpAnyE_take (i := 5) (v := ?_) rfl (by kernel_rfl) (fun _ _ _ h => h) (Or.inl ⟨by rfl, ?_⟩) (by assumption) ?_
        rotate_left
        · (intro w hSw; (try dsimp only at hSw); go_simp; try with_reducible rfl)
        try simp only [Act.put, List.setIfInBounds_toArray, List.set_cons_zero, List.set_cons_succ]
        refine wpAnyE_take (i := 6) (v := ?_) rfl (by kernel_rfl) (fun _ _ _ h => h) (Or.inl ⟨by rfl, ?_⟩) (by assumption) ?_
        rotate_left
        · (intro w hSw; (try dsimp only at hSw); go_simp; try with_reducible rfl)
        try simp only [Act.put, List.setIfInBounds_toArray, List.set_cons_zero, List.set_cons_succ]
        refine wpAnyE_step (i := 7) rfl (by kernel_rfl) (fun K hK => ?_)
        rw [if_pos (by rfl)]
        (go_simp; go_at_call 34; refine (HCO2.out w3.drew _ hh4.drew _ hm4.drew).mono ?_; rintro e w' ⟨rfl, rfl⟩)
        refine hK _ _ hHeld (fun hHeld => ?_)
        clear hK K
        try simp only [Act.put, List.setIfInBounds_toArray, List.set_cons_zero, List.set_cons_succ]
        refine wpAnyE_step (i := 8) rfl (by kernel_rfl) (fun K hK => ?_)
        rw [if_pos (by rfl)]
        go_simp
        refine hK _ _ hHeld (fun hHeld => ?_)
        clear hK K
        try simp only [Act.put, List.setIfInBounds_toArray, List.set_cons_zero, List.set_cons_succ]
        refine wpAnyE_step (i := 9) rfl (by kernel_rfl) (fun K hK => ?_)
        rw [if_pos (by rfl)]
        go_simp
        refine hK _ _ hHeld (fun hHeld => ?_)
        clear hK K
        try simp only [Act.put, List.setIfInBounds_toArray, List.set_cons_zero, List.set_cons_succ]
        refine wpAnyE_step (i := 10) rfl (by kernel_rfl) (fun K hK => ?_)
        rw [if_pos (by rfl)]
        go_simp
        refine hK _ _ hHeld (fun hHeld => ?_)
        clear hK K
        try simp only [Act.put, List.setIfInBounds_toArray, List.set_cons_zero, List.set_cons_succ]
        refine wpAnyE_late (i := 11) rfl (by kernel_rfl) (by kernel_rfl) (fun K hK => ?_)
        rw [if_pos (by rfl)]
        go_simp
        refine hK _ _ ?_
        clear hK K
        try simp only [Act.put, List.setIfInBounds_toArray, List.set_cons_zero, List.set_cons_succ]
        refine wpAnyE_done (by kernel_rfl) ?_ _
        have hsum : ((u0 - k0 : Nat) : Int) + (nb : Int) = (bytesL (ins ⟨key, false, val⟩ Lk) : Int) := by have := HBI.out; omega
        have hh5 : Blk (w3.setCell ⟨sb, 2, none⟩ (.int .i64 (((u0 - k0 : Nat) : Int) + (nb : Int)))).drew sb 67 (stC bl bm q (bytesL (ins ⟨key, false, val⟩ Lk) : Int)) := by rw [← hsum]; simpa [stC] using (hh4.set_ 2 (.int .i64 (((u0 - k0 : Nat) : Int) + (nb : Int)))).drew
        have hcs5 : Changed (· = sb) w3 (w3.setCell ⟨sb, 2, none⟩ (.int .i64 (((u0 - k0 : Nat) : Int) + (nb : Int)))).drew := (Changed.setCell (S := (· = sb)) _ ⟨sb, 2, none⟩ _ rfl).drew
        have hm5 := hm4.changed hcs5 (NoTy.one hh4.ty (by decide)) hsbm
        have hc5 := hc4.trans hcs5 (fun j hj => .inl (.inl hj))
        clear hsum hwr7 hh4 hm4 hbx4
        go_wp2
        go_roundw
        case rel => exact ⟨k + 1, by omega, by go_num, by rw [HSN.out]; exact hh5, by rw [HSN.out]; exact hm5, hc5⟩
        case measure => simp [intOf]; omega
      · -- del true
        have d1 : w2.cell? ⟨N, 1, none⟩ = some (.bool true) := hbx2.cell 1
        go_upto_region 5 with fail
        refine wp_region_E (S := fun w' => w'.cell? ⟨sb, 3, none⟩ = some (.map (some bm)) ∧ w'.cell? ⟨N, 0, none⟩ = some (.string key)) (late := []) (by kernel_rfl) ⟨hh2.cell 3, hbx2.cell 0⟩ (fun hHeld => ?_)
        refine wpAnyE_take (i := 0) (v := ?_) rfl (by kernel_rfl) (fun _ _ _ h => h) (Or.inl ⟨by rfl, ?_⟩) (by assumption) ?_
        rotate_left
        · (intro w hSw; (try dsimp only at hSw); go_simp; try with_reducible rfl)
        try simp only [Act.put, List.setIfInBounds_toArray, List.set_cons_zero, List.set_cons_succ]
        refine wpAnyE_take (i := 1) (v := ?_) rfl (by kernel_rfl) (fun _ _ _ h => h) (Or.inl ⟨by rfl, ?_⟩) (by assumption) ?_
        rotate_left
        · (intro w hSw; (try dsimp only at hSw); go_simp; try with_reducible rfl)
        try simp only [Act.put, List.setIfInBounds_toArray, List.set_cons_zero, List.set_cons_succ]
        refine wpAnyE_take (i := 2) (v := ?_) rfl (by kernel_rfl) (fun _ _ _ h => h) (Or.inl ⟨by rfl, ?_⟩) (by assumption) ?_
        rotate_left
        · (intro w hSw; (try dsimp only at hSw); go_simp; try with_reducible rfl)
        try simp only [Act.put, List.setIfInBounds_toArray, List.set_cons_zero, List.set_cons_succ]
        refine wpAnyE_take (i := 3) (v := ?_) rfl (by kernel_rfl) (fun _ _ _ h => h) (Or.inl ⟨by rfl, ?_⟩) (by assumption) ?_
        rotate_left
        · (intro w hSw; (try dsimp only at hSw); go_simp; try with_reducible rfl)
        try simp only [Act.put, List.setIfInBounds_toArray, List.set_cons_zero, List.set_cons_succ]
        refine wpAnyE_take (i := 4) (v := ?_) rfl (by kernel_rfl) (fun _ _ _ h => h) (Or.inl ⟨by rfl, ?_⟩) (by assumption) ?_
        rotate_left
        · (intro w hSw; (try dsimp only at hSw); go_simp; try with_reducible rfl)
        try simp only [Act.put, List.setIfInBounds_toArray, List.set_cons_zero, List.set_cons_succ]
        refine wpAnyE_take (i := 5) (v := ?_) rfl (by kernel_rfl) (fun _ _ _ h => h) (Or.inl ⟨by rfl, ?_⟩) (by assumption) ?_
        rotate_left
        · (intro w hSw; (try dsimp only at hSw); go_simp; try with_reducible rfl)
        try simp only [Act.put, List.setIfInBounds_toArray, List.set_cons_zero, List.set_cons_succ]
        refine wpAnyE_step (i := 6) rfl (by kernel_rfl) (fun K hK => ?_)
        rw [if_pos (by rfl)]
        (refine wp_mapDelete (.tmp 28) (.tmp 30) rfl rfl hm2.drew hsk ⟨key, true, val⟩ (show key.size ≤ maxLen by unfold maxLen; omega) rfl rfl ?_; intro w3 hm3 hcm3)
        refine hK _ _ ⟨(hh2.drew.frame hcm3 (fun e => hsbm e.symm)).cell 3, (hbx2.drew.frame hcm3 (fun e => hm2.drew.noTy 81 (e ▸ hbx2.drew.ty))).cell 0⟩ (fun hHeld => ?_)
        clear hK K
        try simp only [Act.put, List.setIfInBounds_toArray, List.set_cons_zero, List.set_cons_succ]
        refine wpAnyE_done (by kernel_rfl) ?_ _
        have hh4 := hh2.drew.frame hcm3 (fun e => hsbm e.symm)
        have hbx4 := hbx2.drew.frame hcm3 (fun e => hm2.drew.noTy 81 (e ▸ hbx2.drew.ty))
        have hm4 := hm3.mono (Nat.le_succ _)
        have hc4 := hc2.drew.trans hcm3 (fun j hj => .inl (.inr hj))
        clear hh2 hm2 hbx2 hr2 hc2 hm3 hcm3
        go_upto_region 7 with fail
        have hwr7 : IntKind.i64.wrap (((u0 - k0 : Nat) : Int) + (nb : Int)) = ((u0 - k0 + nb : Nat) : Int) := by rw [IntWalk.i64_in _ (by omega)]; omega
        refine wp_region_E (S := fun w' => w'.cell? ⟨sb, 2, none⟩ = some (.int .i64 ((u0 - k0 : Nat) : Int)) ∧ w'.frozen? ⟨sb, 2, none⟩ = false ∧ w'.cell? ⟨N, 0, none⟩ = some (.string key)) (late := [11]) (by kernel_rfl) ⟨hh4.cell 2, hh4.frozen 2, hbx4.cell 0⟩ (fun hHeld => ?_)
        refine wpAnyE_take (i := 0) (v := ?_) rfl (by kernel_rfl) (fun _ _ _ h => h) (Or.inl ⟨by rfl, ?_⟩) (by assumption) ?_
        rotate_left
        · (intro w hSw; (try dsimp only at hSw); go_simp; try with_reducible rfl)
        try simp only [Act.put, List.setIfInBounds_toArray, List.set_cons_zero, List.set_cons_succ]
        refine wpAnyE_take (i := 1) (v := ?_) rfl (by kernel_rfl) (fun _ _ _ h => h) (Or.inl ⟨by rfl, ?_⟩) (by assumption) ?_
        rotate_left
        · (intro w hSw; (try dsimp only at hSw); go_simp; try with_reducible rfl)
        try simp only [Act.put, List.setIfInBounds_toArray, List.set_cons_zero, List.set_cons_succ]
        refine wpAnyE_take (i := 2) (v := ?_) rfl (by kernel_rfl) (fun _ _ _ h => h) (Or.inl ⟨by rfl, ?_⟩) (by assumption) ?_
        rotate_left
        · (intro w hSw; (try dsimp only at hSw); go_simp; try with_reducible rfl)
        try simp only [Act.put, List.setIfInBounds_toArray, List.set_cons_zero, List.set_cons_succ]
        refine wpAnyE_take (i := 3) (v := ?_) rfl (by kernel_rfl) (fun _ _ _ h => h) (Or.inl ⟨by rfl, ?_⟩) (by assumption) ?_
        rotate_left
        · (intro w hSw; (try dsimp only at hSw); go_simp; try with_reducible rfl)
        try simp only [Act.put, List.setIfInBounds_toArray, List.set_cons_zero, List.set_cons_succ]
        refine wpAnyE_take (i := 4) (v := ?_) rfl (by kernel_rfl) (fun _ _ _ h => h) (Or.inl ⟨by rfl, ?_⟩) (by assumption) ?_
        rotate_left
        · (intro w hSw; (try dsimp only at hSw); go_simp; try with_reducible rfl)
        try simp only [Act.put, List.setIfInBounds_toArray, List.set_cons_zero, List.set_cons_succ]
        refine wpAnyE_take (i := 5) (v := ?_) rfl (by kernel_rfl) (fun _ _ _ h => h) (Or.inl ⟨by rfl, ?_⟩) (by assumption) ?_
        rotate_left
        · (intro w hSw; (try dsimp only at hSw); go_simp; try with_reducible rfl)
        try simp only [Act.put, List.setIfInBounds_toArray, List.set_cons_zero, List.set_cons_succ]
        refine wpAnyE_take (i := 6) (v := ?_) rfl (by kernel_rfl) (fun _ _ _ h => h) (Or.inl ⟨by rfl, ?_⟩) (by assumption) ?_
        rotate_left
        · (intro w hSw; (try dsimp only at hSw); go_simp; try with_reducible rfl)
        try simp only [Act.put, List.setIfInBounds_toArray, List.set_cons_zero, List.set_cons_succ]
        refine wpAnyE_step (i := 7) rfl (by kernel_rfl) (fun K hK => ?_)
        rw [if_pos (by rfl)]
        (go_simp; go_at_call 34; refine (HCO2.out w3.drew _ hh4.drew _ hm4.drew).mono ?_; rintro e w' ⟨rfl, rfl⟩)
        refine hK _ _ hHeld (fun hHeld => ?_)
        clear hK K
        try simp only [Act.put, List.setIfInBounds_toArray, List.set_cons_zero, List.set_cons_succ]
        refine wpAnyE_step (i := 8) rfl (by kernel_rfl) (fun K hK => ?_)
        rw [if_pos (by rfl)]
        go_simp
        refine hK _ _ hHeld (fun hHeld => ?_)
        clear hK K
        try simp only [Act.put, List.setIfInBounds_toArray, List.set_cons_zero, List.set_cons_succ]
        refine wpAnyE_step (i := 9) rfl (by kernel_rfl) (fun K hK => ?_)
        rw [if_pos (by rfl)]
        go_simp
        refine hK _ _ hHeld (fun hHeld => ?_)
        clear hK K
        try simp only [Act.put, List.setIfInBounds_toArray, List.set_cons_zero, List.set_cons_succ]
        refine wpAnyE_step (i := 10) rfl (by kernel_rfl) (fun K hK => ?_)
        rw [if_pos (by rfl)]
        go_simp
        refine hK _ _ hHeld (fun hHeld => ?_)
        clear hK K
        try simp only [Act.put, List.setIfInBounds_toArray, List.set_cons_zero, List.set_cons_succ]
        refine wpAnyE_late (i := 11) rfl (by kernel_rfl) (by kernel_rfl) (fun K hK => ?_)
        rw [if_pos (by rfl)]
        go_simp
        refine hK _ _ ?_
        clear hK K
        try simp only [Act.put, List.setIfInBounds_toArray, List.set_cons_zero, List.set_cons_succ]
        refine wpAnyE_done (by kernel_rfl) ?_ _
        have hsum : ((u0 - k0 : Nat) : Int) + (nb : Int) = (bytesL (ins ⟨key, true, val⟩ Lk) : Int) := by have := HBI.out; omega
        have hh5 : Blk (w3.setCell ⟨sb, 2, none⟩ (.int .i64 (((u0 - k0 : Nat) : Int) + (nb : Int)))).drew sb 67 (stC bl bm q (bytesL (ins ⟨key, true, val⟩ Lk) : Int)) := by rw [← hsum]; simpa [stC] using (hh4.set_ 2 (.int .i64 (((u0 - k0 : Nat) : Int) + (nb : Int)))).drew
        have hcs5 : Changed (· = sb) w3 (w3.setCell ⟨sb, 2, none⟩ (.int .i64 (((u0 - k0 : Nat) : Int) + (nb : Int)))).drew := (Changed.setCell (S := (· = sb)) _ ⟨sb, 2, none⟩ _ rfl).drew
        have hm5 := hm4.changed hcs5 (NoTy.one hh4.ty (by decide)) hsbm
        have hc5 := hc4.trans hcs5 (fun j hj => .inl (.inl hj))
        clear hsum hwr7 hh4 hm4 hbx4
        go_wp2
        go_roundw
        case rel => exact ⟨k + 1, by omega, by go_num, by rw [HSN.out]; exact hh5, by rw [HSN.out]; exact hm5, hc5⟩
        case measure => simp [intOf]; omega
    · obtain rfl : k = xs.length := by omega
      rw [List.take_of_length_le (by simp)] at hhk hmk
      go_wp2
      go_end0
      exact ⟨rfl, hhk, hmk, hck⟩
end Go.Proofs.Ytmfjhejhbomlpaa
