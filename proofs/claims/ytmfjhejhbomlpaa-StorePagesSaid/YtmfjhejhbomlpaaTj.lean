/- Walk of the reference's Put. Walks of the reference's Done and Get. -/
import Derived.Test.YtmfjhejhbomlpaaTh
set_option linter.unusedVariables false
set_option linter.unusedSimpArgs false
namespace Go.Proofs.Ytmfjhejhbomlpaa
open Go.RowKit Go.Shelf

/-- A list on its way. -/
structure PutI (w1 wr : World) (B : Nat) (o : Value) (zs : List It) : Prop where
  own : OwnR wr w1.heap.size o zs
  gs : ∀ z ∈ zs, GIt B z wr
  bel : Below w1.heap.size w1 wr
section
variable {w1 wr w' : World} {B : Nat} {o : Value} {zs : List It}
theorem PutI.drewN (h : PutI w1 wr B o zs) (n : Nat) : PutI w1 (wr.drewN n) B o zs := ⟨h.own, h.gs, Below.drewN h.bel n⟩
theorem PutI.below (h : PutI w1 wr B o zs) (hb : Below wr.heap.size wr w') : PutI w1 w' B o zs :=
  ⟨ownsRow_frame h.own (Changed.of_below (S := fun _ => False) hb) (fun _ _ h => h), fun z hz => (h.gs z hz).changed (Changed.of_below (S := fun _ => False) hb) (NoTy.none _ _), Below.step h.bel h.bel.size hb⟩
theorem PutI.push {v3 : Value} {W : World} {x : It} (h : PutI w1 W B o zs) (hx : GIt B x W) (hown : w'.ownsRow w1.heap.size 43 2 v3 (zs.length + 1) (zs.flatMap itC ++ itC x)) (hb : Below w1.heap.size w1 w') (hg : W.grownBy w' o.ownBlock) : PutI w1 w' B v3 (zs ++ [x]) := by
  have hc := Changed.grown hg
  have hno : NoTy W (fun k => some k = o.ownBlock) 5 := fun k hk ht => absurd ((ownsRow_ty h.own k hk.symm).uniq ht) (by decide)
  refine ⟨?_, fun z hz => ?_, hb⟩
  · unfold OwnR
    rw [List.length_append, List.length_singleton, List.flatMap_append, List.flatMap_singleton]
    exact hown
  · rcases List.mem_append.1 hz with hz | hz
    · exact (h.gs z hz).changed hc hno
    · rw [List.mem_singleton.1 hz]
      exact hx.changed hc hno
theorem PutI.pushes {v3 : Value} {W : World} {xs : List It} (h : PutI w1 W B o zs) (hx : ∀ x ∈ xs, GIt B x W) (hown : w'.ownsRow w1.heap.size 43 2 v3 (zs.length + xs.length) (zs.flatMap itC ++ xs.flatMap itC)) (hg : W.grownBy w' o.ownBlock) : PutI w1 w' B v3 (zs ++ xs) := by
  have hc := Changed.grown hg
  have hno : NoTy W (fun k => some k = o.ownBlock) 5 := fun k hk ht => absurd ((ownsRow_ty h.own k hk.symm).uniq ht) (by decide)
  refine ⟨?_, fun z hz => ?_, Below.changed h.bel hc (fun k hk => (World.ownsRow.lt h.own k hk.symm).1)⟩
  · unfold OwnR
    rw [List.length_append, List.flatMap_append]
    exact hown
  · rcases List.mem_append.1 hz with hz | hz
    · exact (h.gs z hz).changed hc hno
    · exact (hx z hz).changed hc hno
theorem PutI.form (h : PutI w1 wr B o zs) : ∃ A c, o = .slice A zs.length c ∧ zs.length ≤ c := by
  obtain ⟨A, c, e, _, hc⟩ := ownsRow_slice h.own
  exact ⟨A, c, e, hc⟩
theorem PutI.fin {N : Nat} {w : World} (h : PutI w1 wr B o zs) (hN : N ≤ w1.heap.size) (hb : Below N w w1) : OwnR wr N o zs ∧ Below N w wr := by
  refine ⟨?_, hb.trans (h.bel.mono hN)⟩
  obtain ⟨hl, h1⟩ := h.own
  refine ⟨hl, ?_⟩
  rcases h1 with h1 | ⟨g, cap, cur, h1, h2, h3⟩
  · exact .inl h1
  · exact .inr ⟨g, cap, cur, h1, by omega, h3⟩
end

theorem putGo_new {c : Chg} {p : Pr} {r : List Pr} (h : ltK c.key p.1 = true) : putGo c false (p :: r) = (c.key, c.val) :: p :: putGo c true r := by
  have h2 : (p.1.toList == c.key.toList) = false := ba_ne.2 (Ne.symm (ltK_ne h))
  simp only [putGo, h, h2]
  rfl
theorem putGo_skip {c : Chg} {p : Pr} {r : List Pr} {done : Bool} (h : (!done && ltK c.key p.1) = false) (h2 : (p.1.toList == c.key.toList) = false) : putGo c done (p :: r) = p :: putGo c done r := by
  cases done with
  | true => simp only [putGo, h2, Bool.true_or]; rfl
  | false =>
    have h3 : ltK c.key p.1 = false := by simpa using h
    simp only [putGo, h2, h3, Bool.false_or]
    rfl
theorem putGo_same {c : Chg} {p : Pr} {r : List Pr} {done : Bool} (h2 : (p.1.toList == c.key.toList) = true) : putGo c done (p :: r) = putGo c done r := by
  have h3 : ltK c.key p.1 = false := by rw [ba_eq.1 h2]; exact ltK_irrefl _
  simp only [putGo, h2, h3, Bool.or_false, Bool.and_false]
  rfl

set_option maxRecDepth 100000 in
set_option maxHeartbeats 8000000 in
theorem putP_calls (w : World) (v : Value) (xs : List It) {B : Nat} (hB : B ≤ w.heap.size) (h : PRx w v xs) (hg : ∀ x ∈ xs, GIt B x w) (x : Chg) (cv : Value) (hcv : RB w cv x.val) (hks : x.key.size ≤ 1000000000) :
    Calls Try.prog 43 #[v, .agg #[.string x.key, .bool x.del, cv]] w fun e w' => ∃ u zs, e = .returned u ∧ OwnR w' w.heap.size u zs ∧ (∀ z ∈ zs, GIt B z w') ∧ zs.map It.pr = putL x (xs.map It.pr) ∧ Below w.heap.size w w' := by
  obtain ⟨A, c, rfl, hc, hm, hn, _⟩ := id h
  obtain ⟨vA, vc, rfl, hvc, hvn, hvm, hvr⟩ := id hcv
  obtain ⟨R, hR⟩ : ∃ R, putL x (xs.map It.pr) = R := ⟨_, rfl⟩
  have HR : Hid (putGo x x.del (xs.map It.pr) = R) := Lib.hid hR
  rw [hR]
  clear hR hvr
  obtain ⟨key, del, val⟩ := x
  simp only at hcv hks hvn hvc HR
  go_enter Try.func43, Try.ntmps43
  go_wp2
  have hb1 : Below w.heap.size w (w.alloc (.cells #[.string key, .bool del, .slice vA val.length vc] 81)) := (Below.refl _ w).alloc (Nat.le_refl _) _
  have hbx : Blk (w.alloc (.cells #[.string key, .bool del, .slice vA val.length vc] 81)) w.heap.size 81 #[.string key, .bool del, .slice vA val.length vc] := Blk.new _ _ _
  have h1 := h.below hb1
  have hg1 : ∀ x ∈ xs, GIt B x (w.alloc (.cells #[.string key, .bool del, .slice vA val.length vc] 81)) := fun x hx => (hg x hx).changed (Changed.of_below (S := fun _ => False) hb1) (NoTy.none _ _)
  have hcv1 := hcv.below hb1
  have hs1 : w.heap.size < (w.alloc (.cells #[.string key, .bool del, .slice vA val.length vc] 81)).heap.size := by simp
  have HG := Lib.hid hg1
  clear h hg hcv hg1
  generalize w.alloc (.cells #[.string key, .bool del, .slice vA val.length vc] 81) = w1 at *
  generalize hNe : w.heap.size = N at *
  have HN := Lib.hid hNe
  clear hNe
  go_loopw [7, 6, 5] (fun i d o wr => ∃ (k : Nat) (done : Bool) (zs : List It), k ≤ xs.length ∧ i = .int .i64 (k : Int) ∧ d = .bool done ∧ zs.length ≤ 2 * k ∧ PutI w1 wr B o zs ∧ Hid (zs.map It.pr ++ putGo ⟨key, del, val⟩ done ((xs.drop k).map It.pr) = R)) (fun i _ _ _ => xs.length - (intOf i).toNat)
  case atStart => exact ⟨0, del, [], Nat.zero_le _, rfl, rfl, Nat.zero_le _, ⟨World.ownsRow_nil _ _ _ 2, by simp, Below.refl _ _⟩, Lib.hid (by simpa using HR.out)⟩
  case round =>
    obtain ⟨k, done, zs, hk, rfl, rfl, hzl, hI, HW⟩ := hrel
    obtain ⟨oA, oc, rfl, hoc⟩ := hI.form
    by_cases hlt : k < xs.length
    · have HAT : Hid (∃ ad yA yc, A = some ad ∧ xs[k].key.size ≤ 1000000000 ∧ xs[k].val.length ≤ 140737488351232 ∧ itC xs[k] = [.string xs[k].key, .slice yA xs[k].val.length yc] ∧ ∀ W, Below w1.heap.size w1 W → W.cell? (ad.add (k * 2)) = some (.string xs[k].key) ∧ W.cell? ⟨(ad.add (k * 2)).block, (ad.add (k * 2)).off + 1, none⟩ = some (.slice yA xs[k].val.length yc) ∧ GIt B xs[k] W) := Lib.hid (by
        obtain ⟨ad, yA, yc, e, hadb, a0, a1, ra, hye, ka⟩ := h1.at_ hlt
        obtain ⟨_, _, _, _, hrn, _⟩ := id ra
        have hb2 : (⟨(ad.add (k * 2)).block, (ad.add (k * 2)).off + 1, none⟩ : Addr).block < w1.heap.size := by
          show (ad.add (k * 2)).block < _
          rw [block_of_add]; exact hadb
        exact ⟨ad, yA, yc, e, ka, hrn, by unfold itC; rw [one_self (by rw [hye]; rfl), hye], fun W hW => ⟨(hW.cell (by rw [block_of_add]; exact hadb)).trans a0, (hW.cell hb2).trans a1, (HG.out xs[k] (List.getElem_mem hlt)).changed (Changed.of_below (S := fun _ => False) hW) (NoTy.none _ _)⟩⟩)
      obtain ⟨ad, yA, yc, rfl, ka, kv, hitc, hat⟩ := HAT.out
      clear HAT
      have hW := HW.out
      rw [List.drop_eq_getElem_cons hlt, List.map_cons] at hW
      have HIT := Lib.hid hitc
      have HAT := Lib.hid hat
      have hbw := hbx.below hI.bel hs1
      clear hitc HW hat
      generalize xs[k] = y at *
      generalize y.val.length = yn at *
      obtain ⟨a0, a1, _⟩ := HAT.out _ hI.bel
      have b0 : wr.cell? ⟨N, 0, none⟩ = some (.string key) := hbw.cell 0
      cases hin : (!done && ltK key y.key) with
      | true =>
        simp only [Bool.and_eq_true, Bool.not_eq_true'] at hin
        obtain ⟨rfl, hlk⟩ := hin
        have hne : (y.key.toList == key.toList) = false := ba_ne.2 (Ne.symm (ltK_ne hlk))
        have hls : Op.bytesLess key.toList y.key.toList = true := hlk
        rw [putGo_new (c := ⟨key, del, val⟩) (p := It.pr y) hlk] at hW
        have HW := Lib.hid hW
        clear hW hlk
        go_wp2
        go_quiet (fail)
        go_wp2
        have hI2 := hI.drewN nq
        have hbw2 := hbw.drewN nq
        have hcv2 : RB (wr.drewN nq) (.slice vA val.length vc) val := (hcv1.below hI.bel).drewN nq
        clear hI hbw b0 a0 a1
        generalize wr.drewN nq = w2 at *
        refine wp_region_E (S := fun w' => w'.cell? ⟨N, 0, none⟩ = some (.string key) ∧ w'.cell? ⟨N, 2, none⟩ = some (.slice vA val.length vc)) (late := [9]) (by kernel_rfl) ⟨hbw2.cell 0, hbw2.cell 2⟩ (fun hHeld => ?_)
        refine wpAnyE_take (i := 0) (v := ?_) rfl (by kernel_rfl) (fun _ _ _ h => h) (Or.inl ⟨by rfl, ?_⟩) (by assumption) ?_
        rotate_left
        · (intro w hSw; (try dsimp only at hSw); go_simp; try with_reducible rfl)
        try simp only [Act.put, List.setIfInBounds_toArray, List.set_cons_zero, List.set_cons_succ]
        refine wpAnyE_take (i := 1) (v := ?_) rfl (by kernel_rfl) (fun _ _ _ h => h) (Or.inl ⟨by rfl, ?_⟩) (by assumption) ?_
        rotate_left
        · (intro w hSw; (try dsimp only at hSw); go_simp; try with_reducible rfl)
        try simp only [Act.put, List.setIfInBounds_toArray, List.set_cons_zero, List.set_cons_succ]
        refine wpAnyE_take (i := 2) (v := ?_) rfl (by kernel_rfl) (fun _ _ _ h => h) (Or.inl ⟨by rfl, ?_⟩) (by assumption) ?_
        rotate_left
        · (intro w hSw; (try dsimp only at hSw); go_simp; try with_reducible rfl)
        try simp only [Act.put, List.setIfInBounds_toArray, List.set_cons_zero, List.set_cons_succ]
        refine wpAnyE_take (i := 3) (v := ?_) rfl (by kernel_rfl) (fun _ _ _ h => h) (Or.inl ⟨by rfl, ?_⟩) (by assumption) ?_
        rotate_left
        · (intro w hSw; (try dsimp only at hSw); go_simp; try with_reducible rfl)
        try simp only [Act.put, List.setIfInBounds_toArray, List.set_cons_zero, List.set_cons_succ]
        refine wpAnyE_take (i := 4) (v := ?_) rfl (by kernel_rfl) (fun _ _ _ h => h) (Or.inl ⟨by rfl, ?_⟩) (by assumption) ?_
        rotate_left
        · (intro w hSw; (try dsimp only at hSw); go_simp; try with_reducible rfl)
        try simp only [Act.put, List.setIfInBounds_toArray, List.set_cons_zero, List.set_cons_succ]
        refine wpAnyE_step (i := 5) rfl (by kernel_rfl) (fun K hK => ?_)
        rw [if_pos (by rfl)]
        (go_simp; go_at_call 36; refine (copy_calls _ _ _ (hcv2.drewN 1)).mono ?_; rintro e w5 ⟨v5, rfl, hown5, hb5⟩; obtain ⟨A5, c5, hv5, hc5⟩ := Own.slice hown5; rw [bs_length] at hv5; subst hv5; have hI5 := (hI2.drewN 1).below hb5; have hbw5 := (hbw2.drewN 1).below hb5 hbw2.lt)
        refine hK _ _ ⟨hbw5.cell 0, hbw5.cell 2⟩ (fun hHeld => ?_)
        clear hK K
        try simp only [Act.put, List.setIfInBounds_toArray, List.set_cons_zero, List.set_cons_succ]
        refine wpAnyE_step (i := 6) rfl (by kernel_rfl) (fun K hK => ?_)
        rw [if_pos (by rfl)]
        go_simp
        refine hK _ _ hHeld (fun hHeld => ?_)
        clear hK K
        try simp only [Act.put, List.setIfInBounds_toArray, List.set_cons_zero, List.set_cons_succ]
        refine wpAnyE_step (i := 7) rfl (by kernel_rfl) (fun K hK => ?_)
        rw [if_pos (by rfl)]
        go_simp
        refine hK _ _ ⟨(World.cell?_alloc_lt _ _ _ hbw5.lt).trans (hbw5.cell 0), (World.cell?_alloc_lt _ _ _ hbw5.lt).trans (hbw5.cell 2)⟩ (fun hHeld => ?_)
        clear hK K
        try simp only [Act.put, List.setIfInBounds_toArray, List.set_cons_zero, List.set_cons_succ]
        refine wpAnyE_step (i := 8) rfl (by kernel_rfl) (fun K hK => ?_)
        rw [if_pos (by rfl)]
        (refine wp_appendS (w0 := w1) (W := w5) (.tmp 28) (.tmp 35) 39 43 _ 2 40 rfl Try.underlying39 pair_info rfl (by omega) (by omega) (.slice oA zs.length oc) zs.length (zs.flatMap itC) [.string key, .slice A5 val.length c5] rfl rfl (by simp [Value.oneCell']) rfl hI5.own hI5.bel hI5.bel.size (by omega) ?_; intro v6 w6 hown6 hb6 hg6 hat6; have hI6 := PutI.push (x := ⟨key, .slice A5 val.length c5, val⟩) hI5 (Own.low hown5 (Nat.le_trans hB (Nat.le_trans (Nat.le_of_lt hs1) hI2.bel.size))) hown6 hb6 hg6; have hbw6 := hbw5.grown hg6 (Ne.symm (own_blk_ne hI5.own hbw5 (by decide))); obtain ⟨A6, c6, hv6, hc6⟩ := hI6.form; subst hv6)
        refine hK _ _ ⟨hbw6.cell 0, hbw6.cell 2⟩ (fun hHeld => ?_)
        clear hK K
        try simp only [Act.put, List.setIfInBounds_toArray, List.set_cons_zero, List.set_cons_succ]
        refine wpAnyE_late (i := 9) rfl (by kernel_rfl) (by kernel_rfl) (fun K hK => ?_)
        rw [if_pos (by rfl)]
        go_simp
        refine hK _ _ ?_
        clear hK K
        try simp only [Act.put, List.setIfInBounds_toArray, List.set_cons_zero, List.set_cons_succ]
        refine wpAnyE_done (by kernel_rfl) ?_ _
        have HW2 : Hid ((zs ++ [(⟨key, .slice A5 val.length c5, val⟩ : It)] ++ [y]).map It.pr ++ putGo ⟨key, del, val⟩ true ((xs.drop (k + 1)).map It.pr) = R) := Lib.hid (by rw [← HW.out]; simp [It.pr])
        have hzl1 : (zs ++ [(⟨key, .slice A5 val.length c5, val⟩ : It)]).length = zs.length + 1 := by simp
        rw [← hzl1]
        generalize zs ++ [(⟨key, .slice A5 val.length c5, val⟩ : It)] = zs1 at *
        clear hg6 hb6 hown6 hI5 hbw5 hown5 hb5 hcv2 hbw2 hI2 HW hat6
        obtain ⟨a0, a1, _⟩ := HAT.out _ hI6.bel
        have b0 : w6.cell? ⟨N, 0, none⟩ = some (.string key) := hbw6.cell 0
        go_wp2
        go_quiet (fail)
        have hI7 := hI6.drewN nq
        obtain ⟨a0, a1, hgy7⟩ := HAT.out _ hI7.bel
        clear hI6
        generalize (w6).drewN nq = w7 at *
        go_wp2_with (at_builtin; refine wpList_appendS (w0 := w1) (W := w7) rfl (.tmp 45) (.tmp 50) 39 43 _ 2 40 rfl Try.underlying39 pair_info rfl (by omega) (by omega) (.slice A6 zs1.length c6) (zs1.length) (zs1.flatMap itC) [.string y.key, .slice yA yn yc] rfl rfl (by simp [Value.oneCell']) rfl hI7.own hI7.bel hI7.bel.size (by omega) ?_; intro v8 w8 hown8 hb8 hg8 hat8)
        have hI8 := PutI.push hI7 hgy7 (by rw [HIT.out]; exact hown8) hb8 hg8
        obtain ⟨A8, c8, hv8, hc8⟩ := hI8.form
        subst hv8
        go_roundw
        case rel => exact ⟨k + 1, true, zs1 ++ [y], by omega, by go_num, rfl, by simp; omega, hI8, Lib.hid (by simpa using HW2.out)⟩
        case measure => simp [intOf]; omega
      | false =>
        clear a0 a1 b0
        cases done with
        | true =>
          have b0 : wr.cell? ⟨N, 0, none⟩ = some (.string key) := hbw.cell 0
          go_wp2
          go_quiet (fail)
          go_wp2
          have hI6 := hI.drewN nq
          have hbw6 := hbw.drewN nq
          obtain ⟨a0, a1, _⟩ := HAT.out _ hI6.bel
          clear hI hbw b0
          generalize wr.drewN nq = w6 at *
          have b0 : w6.cell? ⟨N, 0, none⟩ = some (.string key) := hbw6.cell 0
          cases hne : (y.key.toList == key.toList) with
          | true =>
            rw [putGo_same (c := ⟨key, del, val⟩) (p := It.pr y) hne] at hW
            have HW2 := Lib.hid hW
            clear hW
            go_wp2
            go_quiet (fail)
            go_wp2
            go_roundw
            case rel => exact ⟨k + 1, true, zs, by omega, by go_num, rfl, by omega, hI6.drewN nq, HW2⟩
            case measure => simp [intOf]; omega
          | false =>
            rw [putGo_skip (c := ⟨key, del, val⟩) (p := It.pr y) hin hne] at hW
            have HW2 : Hid ((zs ++ [y]).map It.pr ++ putGo ⟨key, del, val⟩ true ((xs.drop (k + 1)).map It.pr) = R) := Lib.hid (by rw [← hW]; simp)
            clear hW
            go_wp2
            go_quiet (fail)
            have hI7 := hI6.drewN nq
            obtain ⟨a0, a1, hgy7⟩ := HAT.out _ hI7.bel
            clear hI6
            generalize (w6).drewN nq = w7 at *
            go_wp2_with (at_builtin; refine wpList_appendS (w0 := w1) (W := w7) rfl (.tmp 45) (.tmp 50) 39 43 _ 2 40 rfl Try.underlying39 pair_info rfl (by omega) (by omega) (.slice oA zs.length oc) (zs.length) (zs.flatMap itC) [.string y.key, .slice yA yn yc] rfl rfl (by simp [Value.oneCell']) rfl hI7.own hI7.bel hI7.bel.size (by omega) ?_; intro v8 w8 hown8 hb8 hg8 hat8)
            have hI8 := PutI.push hI7 hgy7 (by rw [HIT.out]; exact hown8) hb8 hg8
            obtain ⟨A8, c8, hv8, hc8⟩ := hI8.form
            subst hv8
            go_roundw
            case rel => exact ⟨k + 1, true, zs ++ [y], by omega, by go_num, rfl, by simp; omega, hI8, Lib.hid (by simpa using HW2.out)⟩
            case measure => simp [intOf]; omega
        | false =>
          have hls : Op.bytesLess key.toList y.key.toList = false := by have h9 : ltK key y.key = false := by simpa using hin
                                                                        exact h9
          obtain ⟨a0, a1, _⟩ := HAT.out _ hI.bel
          have b0 : wr.cell? ⟨N, 0, none⟩ = some (.string key) := hbw.cell 0
          go_wp2
          go_quiet (fail)
          go_wp2
          have hI6 := hI.drewN nq
          have hbw6 := hbw.drewN nq
          obtain ⟨a0, a1, _⟩ := HAT.out _ hI6.bel
          clear hI hbw b0
          generalize wr.drewN nq = w6 at *
          have b0 : w6.cell? ⟨N, 0, none⟩ = some (.string key) := hbw6.cell 0
          cases hne : (y.key.toList == key.toList) with
          | true =>
            rw [putGo_same (c := ⟨key, del, val⟩) (p := It.pr y) hne] at hW
            have HW2 := Lib.hid hW
            clear hW
            go_wp2
            go_quiet (fail)
            go_wp2
            go_roundw
            case rel => exact ⟨k + 1, false, zs, by omega, by go_num, rfl, by omega, hI6.drewN nq, HW2⟩
            case measure => simp [intOf]; omega
          | false =>
            rw [putGo_skip (c := ⟨key, del, val⟩) (p := It.pr y) hin hne] at hW
            have HW2 : Hid ((zs ++ [y]).map It.pr ++ putGo ⟨key, del, val⟩ false ((xs.drop (k + 1)).map It.pr) = R) := Lib.hid (by rw [← hW]; simp)
            clear hW
            go_wp2
            go_quiet (fail)
            have hI7 := hI6.drewN nq
            obtain ⟨a0, a1, hgy7⟩ := HAT.out _ hI7.bel
            clear hI6
            generalize (w6).drewN nq = w7 at *
            go_wp2_with (at_builtin; refine wpList_appendS (w0 := w1) (W := w7) rfl (.tmp 45) (.tmp 50) 39 43 _ 2 40 rfl Try.underlying39 pair_info rfl (by omega) (by omega) (.slice oA zs.length oc) (zs.length) (zs.flatMap itC) [.string y.key, .slice yA yn yc] rfl rfl (by simp [Value.oneCell']) rfl hI7.own hI7.bel hI7.bel.size (by omega) ?_; intro v8 w8 hown8 hb8 hg8 hat8)
            have hI8 := PutI.push hI7 hgy7 (by rw [HIT.out]; exact hown8) hb8 hg8
            obtain ⟨A8, c8, hv8, hc8⟩ := hI8.form
            subst hv8
            go_roundw
            case rel => exact ⟨k + 1, false, zs ++ [y], by omega, by go_num, rfl, by simp; omega, hI8, Lib.hid (by simpa using HW2.out)⟩
            case measure => simp [intOf]; omega
    · obtain rfl : k = xs.length := by omega
      have hW := HW.out
      rw [List.drop_length, List.map_nil] at hW
      have hbw := hbx.below hI.bel hs1
      clear HW
      cases done with
      | true =>
        have HW : Hid (zs.map It.pr = R) := Lib.hid (by rw [← hW]; simp [putGo])
        obtain ⟨ho, hb⟩ := hI.fin (Nat.le_of_lt hs1) hb1
        rw [← HN.out] at ho hb
        clear hW
        go_wp2
        go_ret
        exact ⟨_, zs, rfl, ho, hI.gs, HW.out, hb⟩
      | false =>
        have HW := Lib.hid hW
        clear hW
        go_wp2
        have hcv2 : RB wr (.slice vA val.length vc) val := hcv1.below hI.bel
        refine wp_region_E (S := fun w' => w'.cell? ⟨N, 0, none⟩ = some (.string key) ∧ w'.cell? ⟨N, 2, none⟩ = some (.slice vA val.length vc)) (late := [9]) (by kernel_rfl) ⟨hbw.cell 0, hbw.cell 2⟩ (fun hHeld => ?_)
        refine wpAnyE_take (i := 0) (v := ?_) rfl (by kernel_rfl) (fun _ _ _ h => h) (Or.inl ⟨by rfl, ?_⟩) (by assumption) ?_
        rotate_left
        · (intro w hSw; (try dsimp only at hSw); go_simp; try with_reducible rfl)
        try simp only [Act.put, List.setIfInBounds_toArray, List.set_cons_zero, List.set_cons_succ]
        refine wpAnyE_take (i := 1) (v := ?_) rfl (by kernel_rfl) (fun _ _ _ h => h) (Or.inl ⟨by rfl, ?_⟩) (by assumption) ?_
        rotate_left
        · (intro w hSw; (try dsimp only at hSw); go_simp; try with_reducible rfl)
        try simp only [Act.put, List.setIfInBounds_toArray, List.set_cons_zero, List.set_cons_succ]
        refine wpAnyE_take (i := 2) (v := ?_) rfl (by kernel_rfl) (fun _ _ _ h => h) (Or.inl ⟨by rfl, ?_⟩) (by assumption) ?_
        rotate_left
        · (intro w hSw; (try dsimp only at hSw); go_simp; try with_reducible rfl)
        try simp only [Act.put, List.setIfInBounds_toArray, List.set_cons_zero, List.set_cons_succ]
        refine wpAnyE_take (i := 3) (v := ?_) rfl (by kernel_rfl) (fun _ _ _ h => h) (Or.inl ⟨by rfl, ?_⟩) (by assumption) ?_
        rotate_left
        · (intro w hSw; (try dsimp only at hSw); go_simp; try with_reducible rfl)
        try simp only [Act.put, List.setIfInBounds_toArray, List.set_cons_zero, List.set_cons_succ]
        refine wpAnyE_take (i := 4) (v := ?_) rfl (by kernel_rfl) (fun _ _ _ h => h) (Or.inl ⟨by rfl, ?_⟩) (by assumption) ?_
        rotate_left
        · (intro w hSw; (try dsimp only at hSw); go_simp; try with_reducible rfl)
        try simp only [Act.put, List.setIfInBounds_toArray, List.set_cons_zero, List.set_cons_succ]
        refine wpAnyE_step (i := 5) rfl (by kernel_rfl) (fun K hK => ?_)
        rw [if_pos (by rfl)]
        (go_simp; go_at_call 36; refine (copy_calls _ _ _ (hcv2.drewN 1)).mono ?_; rintro e w5 ⟨v5, rfl, hown5, hb5⟩; obtain ⟨A5, c5, hv5, hc5⟩ := Own.slice hown5; rw [bs_length] at hv5; subst hv5; have hI5 := (hI.drewN 1).below hb5; have hbw5 := (hbw.drewN 1).below hb5 hbw.lt)
        refine hK _ _ ⟨hbw5.cell 0, hbw5.cell 2⟩ (fun hHeld => ?_)
        clear hK K
        try simp only [Act.put, List.setIfInBounds_toArray, List.set_cons_zero, List.set_cons_succ]
        refine wpAnyE_step (i := 6) rfl (by kernel_rfl) (fun K hK => ?_)
        rw [if_pos (by rfl)]
        go_simp
        refine hK _ _ hHeld (fun hHeld => ?_)
        clear hK K
        try simp only [Act.put, List.setIfInBounds_toArray, List.set_cons_zero, List.set_cons_succ]
        refine wpAnyE_step (i := 7) rfl (by kernel_rfl) (fun K hK => ?_)
        rw [if_pos (by rfl)]
        go_simp
        refine hK _ _ ⟨(World.cell?_alloc_lt _ _ _ hbw5.lt).trans (hbw5.cell 0), (World.cell?_alloc_lt _ _ _ hbw5.lt).trans (hbw5.cell 2)⟩ (fun hHeld => ?_)
        clear hK K
        try simp only [Act.put, List.setIfInBounds_toArray, List.set_cons_zero, List.set_cons_succ]
        refine wpAnyE_step (i := 8) rfl (by kernel_rfl) (fun K hK => ?_)
        rw [if_pos (by rfl)]
        (refine wp_appendS (w0 := w1) (W := w5) (.tmp 54) (.tmp 61) 39 43 _ 2 40 rfl Try.underlying39 pair_info rfl (by omega) (by omega) (.slice oA zs.length oc) zs.length (zs.flatMap itC) [.string key, .slice A5 val.length c5] rfl rfl (by simp [Value.oneCell']) rfl hI5.own hI5.bel hI5.bel.size (by omega) ?_; intro v6 w6 hown6 hb6 hg6 hat6; have hI6 := PutI.push (x := ⟨key, .slice A5 val.length c5, val⟩) hI5 (Own.low hown5 (Nat.le_trans hB (Nat.le_trans (Nat.le_of_lt hs1) hI.bel.size))) hown6 hb6 hg6; have hbw6 := hbw5.grown hg6 (Ne.symm (own_blk_ne hI5.own hbw5 (by decide))); obtain ⟨A6, c6, hv6, hc6⟩ := hI6.form; subst hv6)
        refine hK _ _ ⟨hbw6.cell 0, hbw6.cell 2⟩ (fun hHeld => ?_)
        clear hK K
        try simp only [Act.put, List.setIfInBounds_toArray, List.set_cons_zero, List.set_cons_succ]
        refine wpAnyE_late (i := 9) rfl (by kernel_rfl) (by kernel_rfl) (fun K hK => ?_)
        rw [if_pos (by rfl)]
        go_simp
        refine hK _ _ ?_
        clear hK K
        try simp only [Act.put, List.setIfInBounds_toArray, List.set_cons_zero, List.set_cons_succ]
        refine wpAnyE_done (by kernel_rfl) ?_ _
        have HW2 : Hid ((zs ++ [(⟨key, .slice A5 val.length c5, val⟩ : It)]).map It.pr = R) := Lib.hid (by rw [← HW.out]; simp [It.pr, putGo])
        obtain ⟨ho, hb⟩ := hI6.fin (Nat.le_of_lt hs1) hb1
        rw [← HN.out] at ho hb
        rw [List.length_append, List.length_singleton] at ho
        clear hg6 hb6 hown6 hI5 hbw5 hown5 hb5 hcv2 HW hat6
        go_wp2
        go_ret
        exact ⟨_, _, rfl, ho, hI6.gs, HW2.out, hb⟩
end Go.Proofs.Ytmfjhejhbomlpaa
set_option linter.unusedVariables false
set_option linter.unusedSimpArgs false
namespace Go.Proofs.Ytmfjhejhbomlpaa
open Go.RowKit Go.Shelf

theorem OwnR.low {w : World} {B B' : Nat} {v : Value} {xs : List It} (h : OwnR w B v xs) (hb : B' ≤ B) : OwnR w B' v xs := by
  obtain ⟨hl, h1⟩ := h
  refine ⟨hl, ?_⟩
  rcases h1 with h1 | ⟨g, cap, cur, h1, h2, h3⟩
  · exact .inl h1
  · exact .inr ⟨g, cap, cur, h1, by omega, h3⟩
def PrOk (p : Pr) : Prop := p.1.size ≤ 1000000000 ∧ p.2.length ≤ 140737488351232
theorem PairsAt.pr2 {w : World} {B : Nat} {v : Value} {L : List Pr} (h : PairsAt w B v L) (hn : L.length ≤ 1000000000) (hb : ∀ p ∈ L, PrOk p) : ∃ xs : List It, PRx w v xs ∧ (∀ x ∈ xs, GIt B x w) ∧ xs.map It.pr = L := by
  obtain ⟨xs, ho, hg, rfl⟩ := h
  rw [List.length_map] at hn
  obtain ⟨A, c, rfl, _, hc⟩ := ownsRow_slice ho
  have hmx : c ≤ maxLen := by
    obtain ⟨_, ⟨h0, h1⟩ | ⟨g, cap, cur, h0, _, _, _, h2, _⟩⟩ := ho
    · injection h0 with _ _ h0
      rw [h0]; exact Nat.zero_le _
    · injection h0 with _ _ h0
      rw [h0]; exact h2
  refine ⟨xs, ⟨A, c, rfl, hc, hmx, hn, Reads.of_own ho, fun x hx => ?_⟩, hg, rfl⟩
  have := hb (It.pr x) (List.mem_map.2 ⟨x, hx, rfl⟩)
  exact ⟨(hg x hx).rb this.2, this.1⟩
theorem putGo_mem {c : Chg} : ∀ {L : List Pr} {d : Bool} {q : Pr}, q ∈ putGo c d L → q ∈ L ∨ q = (c.key, c.val)
  | [], d, q, h => by
    cases d with
    | true => simp [putGo] at h
    | false => right; simpa [putGo] using h
  | p :: r, d, q, h => by
    rw [putGo] at h
    rcases List.mem_append.1 h with h | h
    · right
      split at h
      · simpa using h
      · simp at h
    · rcases List.mem_append.1 h with h | h
      · left
        split at h
        · simp at h
        · simp at h; simp [h]
      · rcases putGo_mem h with h | h
        · left; simp [h]
        · exact .inr h
theorem putGo_len {c : Chg} : ∀ (L : List Pr) (d : Bool), (putGo c d L).length ≤ L.length + (if d then 0 else 1)
  | [], d => by cases d <;> simp [putGo]
  | p :: r, d => by
    rw [putGo, List.length_append, List.length_append]
    have h1 := putGo_len (c := c) r (d || ltK c.key p.1)
    have h2 : (if (p.1.toList == c.key.toList) = true then ([] : List Pr) else [p]).length ≤ 1 := by split <;> simp
    simp only [List.length_cons]
    cases d with
    | true =>
      simp only [Bool.not_true, Bool.false_and, Bool.true_or, Bool.false_eq_true, if_false, if_true, List.length_nil] at h1 ⊢
      omega
    | false =>
      cases hl : ltK c.key p.1 with
      | true =>
        simp only [hl, Bool.not_false, Bool.true_and, Bool.false_or, if_true, Bool.false_eq_true, if_false, List.length_cons, List.length_nil] at h1 ⊢
        omega
      | false =>
        simp only [hl, Bool.not_false, Bool.true_and, Bool.false_or, if_true, Bool.false_eq_true, if_false, List.length_nil] at h1 ⊢
        omega
theorem putL_len (c : Chg) (L : List Pr) : (putL c L).length ≤ L.length + 1 := Nat.le_trans (putGo_len L c.del) (by split <;> omega)
/-- All changes put. -/
def putsL (L : List Pr) (cs : List Chg) : List Pr := cs.foldl (fun l c => putL c l) L
theorem putsL_ok : ∀ (cs : List Chg) (L : List Pr), (∀ p ∈ L, PrOk p) → (∀ c ∈ cs, c.key.size ≤ 1000000000 ∧ c.val.length ≤ 140737488351232) → (putsL L cs).length ≤ L.length + cs.length ∧ ∀ p ∈ putsL L cs, PrOk p
  | [], L, h, _ => ⟨by simp [putsL], h⟩
  | c :: r, L, h, hc => by
    have h2 : ∀ p ∈ putL c L, PrOk p := fun p hp => by
      rcases putGo_mem hp with hp | rfl
      · exact h p hp
      · exact hc c (by simp)
    have ih := putsL_ok r (putL c L) h2 fun x hx => hc x (by simp [hx])
    have hl := putL_len c L
    refine ⟨?_, ih.2⟩
    have := ih.1
    show (putsL (putL c L) r).length ≤ _
    simp only [List.length_cons]
    omega
theorem putsL_snoc (L : List Pr) (cs : List Chg) (c : Chg) : putsL L (cs ++ [c]) = putL c (putsL L cs) := by simp [putsL, List.foldl_append]
theorem putsL_done (cs : List Chg) {L : List Pr} (h : SortedL L) : putsL L cs = doneL L cs := doneL_put cs L h

set_option maxRecDepth 100000 in
set_option maxHeartbeats 2000000 in
theorem doneP_calls (w : World) (v : Value) {L : List Pr} {B : Nat} (hB : B ≤ w.heap.size) (h : PairsAt w B v L) (cv : Value) (cs : List (Chg × Value)) (hcl : CL w cv cs) (hn : L.length + cs.length ≤ 1000000000) (hb : ∀ p ∈ L, PrOk p) :
    Calls Try.prog 19 #[v, cv] w fun e w' => ∃ u, e = .returned u ∧ PairsAt w' B u (putsL L (cs.map Prod.fst)) ∧ Below w.heap.size w w' := by
  obtain ⟨A, c, rfl, hc, hm, hcn, _, hxs⟩ := id hcl
  have HCL := Lib.hid hcl
  have HB := Lib.hid hb
  have HX : Hid (∀ x ∈ cs, x.1.key.size ≤ 1000000000 ∧ x.1.val.length ≤ 140737488351232) := Lib.hid fun x hx => by
    obtain ⟨⟨_, _, _, _, h1, _⟩, h2⟩ := hxs x hx
    exact ⟨by omega, h1⟩
  clear hcl hb hxs
  go_enter Try.func19, Try.ntmps19
  go_wp2
  go_loopw [5, 0] (fun i l wr => ∃ k : Nat, k ≤ cs.length ∧ i = .int .i64 (k : Int) ∧ PairsAt wr B l (putsL L ((cs.take k).map Prod.fst)) ∧ Below w.heap.size w wr) (fun i _ _ => cs.length - (intOf i).toNat)
  case atStart => exact ⟨0, Nat.zero_le _, rfl, h, Below.refl _ _⟩
  case round =>
    obtain ⟨k, hk, rfl, hp, hbr⟩ := hrel
    by_cases hlt : k < cs.length
    · obtain ⟨hl1, hok⟩ := putsL_ok ((cs.take k).map Prod.fst) L HB.out (fun x hx => by
        obtain ⟨y, hy, rfl⟩ := List.mem_map.1 hx
        exact HX.out y (List.mem_of_mem_take hy))
      rw [List.length_map, List.length_take] at hl1
      obtain ⟨xs, hpx, hg, hxe⟩ := hp.pr2 (by omega) hok
      obtain ⟨A', c', e', hc', hmx', hnx', hr, hxs⟩ := HCL.out.below hbr
      injection e' with e1 e2 e3
      subst e1 e3
      clear e2
      obtain ⟨ad, rfl, hadb, hcell⟩ := hr.2 (by omega)
      have a0 : wr.cell? (ad.add (k * 3)) = some (.string cs[k].1.key) := hcell (k * 3) _ ((chc_at cs k hlt 0 (by omega)).trans rfl)
      have a1 : wr.cell? ⟨(ad.add (k * 3)).block, (ad.add (k * 3)).off + 1, none⟩ = some (.bool cs[k].1.del) := by
        rw [← addr_pos (ad.add (k * 3)) 1 (by omega), add_of_add]
        exact hcell (k * 3 + 1) _ ((chc_at cs k hlt 1 (by omega)).trans rfl)
      have a2 : wr.cell? ⟨(ad.add (k * 3)).block, (ad.add (k * 3)).off + 2, none⟩ = some cs[k].2 := by
        rw [← addr_pos (ad.add (k * 3)) 2 (by omega), add_of_add]
        exact hcell (k * 3 + 2) _ ((chc_at cs k hlt 2 (by omega)).trans rfl)
      obtain ⟨hrbx, hks⟩ := hxs cs[k] (List.getElem_mem hlt)
      have hput := putP_calls wr _ xs (Nat.le_trans hB hbr.size) hpx hg cs[k].1 cs[k].2 hrbx (by omega)
      have hsn : putsL L ((cs.take (k + 1)).map Prod.fst) = putL cs[k].1 (xs.map It.pr) := by
        rw [List.take_succ_eq_append_getElem hlt, List.map_append, hxe]
        exact putsL_snoc _ _ _
      have HSN := Lib.hid hsn
      have HPUT := Lib.hid hput
      obtain ⟨vA, vc, hve, _⟩ := id hrbx
      rw [hve] at a2 HPUT
      clear hsn hput hve hrbx hxs hcell hr hpx hg hxe hok hl1 hp
      generalize cs[k] = y at *
      go_wp2_with (go_at_call 43; refine HPUT.out.mono ?_; rintro e w2 ⟨u, zs, rfl, ho, hg2, hz, hb2⟩)
      go_roundw
      case rel => exact ⟨k + 1, by omega, by go_num, ⟨zs, OwnR.low ho (Nat.le_trans hB hbr.size), hg2, hz.trans HSN.out.symm⟩, Below.step hbr hbr.size hb2⟩
      case measure => simp [intOf]; omega
    · obtain rfl : k = cs.length := by omega
      rw [List.take_length] at hp
      go_wp2
      go_ret
      exact ⟨_, rfl, hp, hbr⟩
end Go.Proofs.Ytmfjhejhbomlpaa
