/- The walk that takes at most so many changes. -/
import Derived.Test.YtmfjhejhbomlpaaSj
set_option linter.unusedVariables false
set_option linter.unusedSimpArgs false
namespace Go.Proofs.Ytmfjhejhbomlpaa
open Go.RowKit

/-- Changes that came in. -/
def CLr (w : World) (v : Value) (xs : List (Chg × Value)) : Prop :=
  ∃ A c, v = .slice A xs.length c ∧ xs.length ≤ c ∧ c ≤ maxLen ∧ Reads w w.heap.size 3 A xs.length (xs.flatMap chc) ∧ ∀ x ∈ xs, RB w x.2 x.1.val ∧ x.1.key.size ≤ maxLen
theorem CLr.below {w w' : World} {v : Value} {xs : List (Chg × Value)} (h : CLr w v xs) (hb : Below w.heap.size w w') : CLr w' v xs := by
  obtain ⟨A, c, rfl, h1, h2, hr, hxs⟩ := h
  exact ⟨A, c, rfl, h1, h2, (hr.below hb).more hb.size, fun x hx => ⟨(hxs x hx).1.below hb, (hxs x hx).2⟩⟩
def cutK (s : ByteArray) (n : Nat) : ByteArray := if n < s.size then s.extract 0 n else s
def cutC (c : Chg) : Chg := ⟨cutK c.key 60, c.del, c.val.take 4200⟩
def fewC (cs : List Chg) : List Chg := (cs.take 20).map cutC

set_option maxRecDepth 100000 in
set_option maxHeartbeats 4000000 in
theorem few_calls (w : World) (v : Value) (xs : List (Chg × Value)) (h : CLr w v xs) :
    Calls Try.prog 13 #[v] w fun e w' => ∃ u ys, e = .returned u ∧ Hid (ys.map Prod.fst = fewC (xs.map Prod.fst)) ∧ OwnCL w' w.heap.size u ys ∧ Below w.heap.size w w' := by
  obtain ⟨A, c, rfl, hc, hm, hr, hxs⟩ := h
  unfold maxLen at hm
  have HXS := Lib.hid hxs
  clear hxs
  go_enter Try.func13, Try.ntmps13
  go_wp2
  go_loopw [4, 3] (fun i lv wr => ∃ (k : Nat) (ys : List (Chg × Value)), k ≤ xs.length ∧ k ≤ 20 ∧ i = .int .i64 (k : Int) ∧ Hid (ys.length = k) ∧ Hid (ys.map Prod.fst = ((xs.map Prod.fst).take k).map cutC) ∧ OwnCL wr w.heap.size lv ys ∧ Below w.heap.size w wr) (fun i _ _ => xs.length - (intOf i).toNat)
  case atStart => exact ⟨0, [], Nat.zero_le _, Nat.zero_le _, rfl, Lib.hid rfl, Lib.hid rfl, OwnCL.nil _ _, Below.refl _ _⟩
  case round =>
    obtain ⟨k, ys, hk, hk20, rfl, HL, HM, hown, hb⟩ := hrel
    have hbs := hb.size
    by_cases hlt : k < xs.length
    · by_cases h20 : k < 20
      · obtain ⟨ad, rfl, hadb, hcell⟩ := hr.2 (by omega)
        have a0 : wr.cell? (ad.add (k * 3)) = some (.string xs[k].1.key) := by
          rw [hb.cell (by rw [block_of_add]; exact hadb)]
          exact hcell (k * 3) _ ((chc_at xs k hlt 0 (by omega)).trans rfl)
        have a1 : wr.cell? ⟨(ad.add (k * 3)).block, (ad.add (k * 3)).off + 1, none⟩ = some (.bool xs[k].1.del) := by
          rw [← addr_pos (ad.add (k * 3)) 1 (by omega), add_of_add, hb.cell (by rw [block_of_add]; exact hadb)]
          exact hcell (k * 3 + 1) _ ((chc_at xs k hlt 1 (by omega)).trans rfl)
        have a2 : wr.cell? ⟨(ad.add (k * 3)).block, (ad.add (k * 3)).off + 2, none⟩ = some xs[k].2 := by
          rw [← addr_pos (ad.add (k * 3)) 2 (by omega), add_of_add, hb.cell (by rw [block_of_add]; exact hadb)]
          exact hcell (k * 3 + 2) _ ((chc_at xs k hlt 2 (by omega)).trans rfl)
        obtain ⟨hrbx, hks⟩ := HXS.out xs[k] (List.getElem_mem hlt)
        have hsn : (ys.map Prod.fst) ++ [cutC xs[k].1] = ((xs.map Prod.fst).take (k + 1)).map cutC := by
          rw [HM.out, List.take_succ_eq_append_getElem (by simpa using hlt)]
          simp
        have HSN := Lib.hid hsn
        clear hsn hcell
        obtain ⟨x, hxk⟩ : ∃ x, xs[k].1 = x := ⟨_, rfl⟩
        obtain ⟨xv, hxv⟩ : ∃ x, xs[k].2 = x := ⟨_, rfl⟩
        rw [hxk] at a0 a1 hrbx hks HSN
        rw [hxv] at a2 hrbx
        clear hxk hxv
        obtain ⟨key, del, val⟩ := x
        simp only at a0 a1 hrbx hks
        unfold maxLen at hks
        obtain ⟨vA, vc, hve, hvc, hvn, hvm, hvr⟩ := id hrbx
        subst hve
        have hyl : ys.length ≤ 20 := by have := HL.out; omega
        obtain ⟨lA, lc, hlv, hlc⟩ : ∃ A c, u3 = .slice A ys.length c ∧ ys.length ≤ c := by
          rcases hown.1.2 with ⟨rfl, h0⟩ | ⟨g, cap, cur, hv, _, _, hc, _⟩
          · exact ⟨none, 0, by rw [h0], by omega⟩
          · exact ⟨_, _, hv, hc⟩
        subst hlv
        by_cases h60 : 60 < key.size
        · have hcut : cutC ⟨key, del, val⟩ = ⟨key.extract 0 60, del, val.take 4200⟩ := by
            unfold cutC cutK
            rw [if_pos h60]
          have HCUT := Lib.hid hcut
          clear hcut
          go_upto_region 8 with fail
          have hbx := Blk.new wr 81 #[.string (key.extract 0 60), .bool del, .slice vA val.length vc]
          have hb1 := hb.alloc hbs (.cells #[.string (key.extract 0 60), .bool del, .slice vA val.length vc] 81)
          have hown1 := hown.below ((Below.refl _ wr).alloc (Nat.le_refl _) (.cells #[.string (key.extract 0 60), .bool del, .slice vA val.length vc] 81))
          have hNs : w.heap.size ≤ wr.heap.size := hbs
          have HLT := Lib.hid (show ∀ j, (Value.slice lA ys.length lc).ownBlock = some j → j < wr.heap.size from fun j hj => (hown.1.lt j hj).2)
          generalize wr.alloc (.cells #[.string (key.extract 0 60), .bool del, .slice vA val.length vc] 81) = W at *
          generalize wr.heap.size = N at *
          have e2 : W.cell? ⟨N, 2, none⟩ = some (.slice vA val.length vc) := hbx.cell 2
          have hrbW := hrbx.below hb1
          go_upto_region 9 with (first
            | (go_at_call 37; refine (cut_calls _ _ 4200 (by omega) _ hrbW).mono ?_; rintro e w' ⟨cv, rfl, hcv, rfl⟩)
            | (go_at_call 36; refine (copy_calls _ _ _ hcv).mono ?_; rintro e w2 ⟨v2, rfl, hown2, hb2⟩; obtain ⟨A2, c2, hv2, hc2⟩ := Own.slice hown2; subst hv2; have hbx2 := hbx.below hb2 hbx.lt; have g2 : w2.cell? ⟨N, 2, none⟩ = some (.slice vA val.length vc) := hbx2.cell 2; have gf := hbx2.frozen 2))
          have hbx3 : Blk (w2.setCell ⟨N, 2, none⟩ (.slice A2 (bs (val.take 4200)).length c2)) N 81 #[.string (key.extract 0 60), .bool del, .slice A2 (bs (val.take 4200)).length c2] := by simpa using hbx2.set_ 2 (.slice A2 (bs (val.take 4200)).length c2)
          have hcs : Changed (· = N) w2 (w2.setCell ⟨N, 2, none⟩ (.slice A2 (bs (val.take 4200)).length c2)) := Changed.setCell (S := (· = N)) w2 ⟨N, 2, none⟩ _ rfl
          have hnt1 := NoTy.one (t := 5) hbx2.ty (by decide)
          have hown3 := OwnB.changed hown2 hcs hnt1
          have hb3 : Below w.heap.size w (w2.setCell ⟨N, 2, none⟩ (.slice A2 (bs (val.take 4200)).length c2)) := (Below.step hb1 hb1.size hb2).setCell (p := ⟨N, 2, none⟩) hNs _
          have hl0 := hown1.below hb2
          have hnR : ∀ j, (Value.slice lA ys.length lc).ownBlock = some j → j ≠ N := fun j hj e => by
            have h1 := HLT.out j hj
            omega
          have hown4 : OwnCL (w2.setCell ⟨N, 2, none⟩ (.slice A2 (bs (val.take 4200)).length c2)) w.heap.size (.slice lA ys.length lc) ys := ⟨ownsRow_frame hl0.1 hcs (fun j hj e => hnR j hj e), fun y hy => (hl0.2 y hy).changed hcs hnt1⟩
          have hou4 := Own.low hown3 (b := w.heap.size) hb1.size
          clear hown3 hown2 hl0 hown1 hown hb1 hb2 hbx hbx2 e2 g2 gf hrbW hb
          generalize w2.setCell ⟨N, 2, none⟩ (.slice A2 (bs (val.take 4200)).length c2) = w3 at *
          have e0 : w3.cell? ⟨N, 0, none⟩ = some (.string (key.extract 0 60)) := hbx3.cell 0
          have e1 : w3.cell? ⟨N, 1, none⟩ = some (.bool del) := hbx3.cell 1
          have e3 : w3.cell? ⟨N, 2, none⟩ = some (.slice A2 (bs (val.take 4200)).length c2) := hbx3.cell 2
          go_wp2_with (at_builtin; refine wpList_appendS (w0 := w) (W := w3) rfl (.tmp 33) (.tmp 35) 34 81 _ 3 48 rfl Try.underlying34 change_info rfl (by omega) (by omega) (.slice lA ys.length lc) ys.length (ys.flatMap chc) [.string (key.extract 0 60), .bool del, .slice A2 (bs (val.take 4200)).length c2] rfl rfl (by simp [Value.oneCell']) rfl hown4.1 hb3 hb3.size (by omega) ?_; intro v5 w5 hown5 hb5 hg5 hat5)
          go_roundw
          case rel =>
            have hc5 := Changed.grown hg5
            have hnt5 : NoTy w3 (fun j => some j = (Value.slice lA ys.length lc).ownBlock) 5 := fun j hj ht => absurd ((ownsRow_ty hown4.1 j hj.symm).uniq ht) (by decide)
            refine ⟨k + 1, ys ++ [(⟨key.extract 0 60, del, val.take 4200⟩, .slice A2 (bs (val.take 4200)).length c2)], by omega, by omega, by go_num, Lib.hid (by rw [List.length_append, HL.out]; rfl), Lib.hid (by rw [List.map_append, ← HSN.out, HCUT.out]; rfl), ⟨?_, fun y hy => ?_⟩, hb5⟩
            · rw [List.length_append, List.flatMap_append]
              simpa [chc] using hown5
            · rcases List.mem_append.1 hy with hy | hy
              · exact (hown4.2 y hy).changed hc5 hnt5
              · rw [List.mem_singleton.1 hy]
                exact OwnB.changed hou4 hc5 hnt5
          case measure => simp [intOf]; omega
        · have hcut : cutC ⟨key, del, val⟩ = ⟨key, del, val.take 4200⟩ := by
            unfold cutC cutK
            rw [if_neg h60]
          have HCUT := Lib.hid hcut
          clear hcut
          go_upto_region 8 with fail
          have hbx := Blk.new wr 81 #[.string key, .bool del, .slice vA val.length vc]
          have hb1 := hb.alloc hbs (.cells #[.string key, .bool del, .slice vA val.length vc] 81)
          have hown1 := hown.below ((Below.refl _ wr).alloc (Nat.le_refl _) (.cells #[.string key, .bool del, .slice vA val.length vc] 81))
          have hNs : w.heap.size ≤ wr.heap.size := hbs
          have HLT := Lib.hid (show ∀ j, (Value.slice lA ys.length lc).ownBlock = some j → j < wr.heap.size from fun j hj => (hown.1.lt j hj).2)
          generalize wr.alloc (.cells #[.string key, .bool del, .slice vA val.length vc] 81) = W at *
          generalize wr.heap.size = N at *
          have e2 : W.cell? ⟨N, 2, none⟩ = some (.slice vA val.length vc) := hbx.cell 2
          have hrbW := hrbx.below hb1
          go_upto_region 9 with (first
            | (go_at_call 37; refine (cut_calls _ _ 4200 (by omega) _ hrbW).mono ?_; rintro e w' ⟨cv, rfl, hcv, rfl⟩)
            | (go_at_call 36; refine (copy_calls _ _ _ hcv).mono ?_; rintro e w2 ⟨v2, rfl, hown2, hb2⟩; obtain ⟨A2, c2, hv2, hc2⟩ := Own.slice hown2; subst hv2; have hbx2 := hbx.below hb2 hbx.lt; have g2 : w2.cell? ⟨N, 2, none⟩ = some (.slice vA val.length vc) := hbx2.cell 2; have gf := hbx2.frozen 2))
          have hbx3 : Blk (w2.setCell ⟨N, 2, none⟩ (.slice A2 (bs (val.take 4200)).length c2)) N 81 #[.string key, .bool del, .slice A2 (bs (val.take 4200)).length c2] := by simpa using hbx2.set_ 2 (.slice A2 (bs (val.take 4200)).length c2)
          have hcs : Changed (· = N) w2 (w2.setCell ⟨N, 2, none⟩ (.slice A2 (bs (val.take 4200)).length c2)) := Changed.setCell (S := (· = N)) w2 ⟨N, 2, none⟩ _ rfl
          have hnt1 := NoTy.one (t := 5) hbx2.ty (by decide)
          have hown3 := OwnB.changed hown2 hcs hnt1
          have hb3 : Below w.heap.size w (w2.setCell ⟨N, 2, none⟩ (.slice A2 (bs (val.take 4200)).length c2)) := (Below.step hb1 hb1.size hb2).setCell (p := ⟨N, 2, none⟩) hNs _
          have hl0 := hown1.below hb2
          have hnR : ∀ j, (Value.slice lA ys.length lc).ownBlock = some j → j ≠ N := fun j hj e => by
            have h1 := HLT.out j hj
            omega
          have hown4 : OwnCL (w2.setCell ⟨N, 2, none⟩ (.slice A2 (bs (val.take 4200)).length c2)) w.heap.size (.slice lA ys.length lc) ys := ⟨ownsRow_frame hl0.1 hcs (fun j hj e => hnR j hj e), fun y hy => (hl0.2 y hy).changed hcs hnt1⟩
          have hou4 := Own.low hown3 (b := w.heap.size) hb1.size
          clear hown3 hown2 hl0 hown1 hown hb1 hb2 hbx hbx2 e2 g2 gf hrbW hb
          generalize w2.setCell ⟨N, 2, none⟩ (.slice A2 (bs (val.take 4200)).length c2) = w3 at *
          have e0 : w3.cell? ⟨N, 0, none⟩ = some (.string key) := hbx3.cell 0
          have e1 : w3.cell? ⟨N, 1, none⟩ = some (.bool del) := hbx3.cell 1
          have e3 : w3.cell? ⟨N, 2, none⟩ = some (.slice A2 (bs (val.take 4200)).length c2) := hbx3.cell 2
          go_wp2_with (at_builtin; refine wpList_appendS (w0 := w) (W := w3) rfl (.tmp 33) (.tmp 35) 34 81 _ 3 48 rfl Try.underlying34 change_info rfl (by omega) (by omega) (.slice lA ys.length lc) ys.length (ys.flatMap chc) [.string key, .bool del, .slice A2 (bs (val.take 4200)).length c2] rfl rfl (by simp [Value.oneCell']) rfl hown4.1 hb3 hb3.size (by omega) ?_; intro v5 w5 hown5 hb5 hg5 hat5)
          go_roundw
          case rel =>
            have hc5 := Changed.grown hg5
            have hnt5 : NoTy w3 (fun j => some j = (Value.slice lA ys.length lc).ownBlock) 5 := fun j hj ht => absurd ((ownsRow_ty hown4.1 j hj.symm).uniq ht) (by decide)
            refine ⟨k + 1, ys ++ [(⟨key, del, val.take 4200⟩, .slice A2 (bs (val.take 4200)).length c2)], by omega, by omega, by go_num, Lib.hid (by rw [List.length_append, HL.out]; rfl), Lib.hid (by rw [List.map_append, ← HSN.out, HCUT.out]; rfl), ⟨?_, fun y hy => ?_⟩, hb5⟩
            · rw [List.length_append, List.flatMap_append]
              simpa [chc] using hown5
            · rcases List.mem_append.1 hy with hy | hy
              · exact (hown4.2 y hy).changed hc5 hnt5
              · rw [List.mem_singleton.1 hy]
                exact OwnB.changed hou4 hc5 hnt5
          case measure => simp [intOf]; omega
      · obtain rfl : k = 20 := by omega
        have hfin : ys.map Prod.fst = fewC (xs.map Prod.fst) := HM.out
        have HF := Lib.hid hfin
        clear hfin
        go_wp2
        go_ret
        exact ⟨_, ys, rfl, HF, hown, hb⟩
    · obtain rfl : k = xs.length := by omega
      have hfin : ys.map Prod.fst = fewC (xs.map Prod.fst) := by
        rw [HM.out]
        unfold fewC
        rw [List.take_of_length_le (by simp), List.take_of_length_le (by simpa using hk20)]
      have HF := Lib.hid hfin
      clear hfin
      go_wp2
      go_ret
      exact ⟨_, ys, rfl, HF, hown, hb⟩
end Go.Proofs.Ytmfjhejhbomlpaa
