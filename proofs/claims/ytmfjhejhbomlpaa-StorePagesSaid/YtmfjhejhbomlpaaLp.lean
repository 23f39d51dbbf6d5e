/- Walk of the law StorePages. -/
import Derived.Test.YtmfjhejhbomlpaaTl
set_option linter.unusedVariables false
set_option linter.unusedSimpArgs false
namespace Go.Proofs.Ytmfjhejhbomlpaa
open Go.RowKit Go.Shelf

theorem leq_ltK (t : TypeId) (a b : ByteArray) : binOp .leq t (.string a) (.string b) = pure (.bool (!ltK b a)) := by
  have h : (!ltK b a) = (Op.bytesLess a.toList b.toList || a.toList == b.toList) := by
    cases h1 : ltK b a with
    | true =>
      have h2 : Op.bytesLess a.toList b.toList = false := ltK_asymm h1
      have h3 : (a.toList == b.toList) = false := ba_ne.2 (Ne.symm (ltK_ne h1))
      rw [h2, h3]; rfl
    | false =>
      cases h2 : ltK a b with
      | true =>
        have h3 : Op.bytesLess a.toList b.toList = true := h2
        rw [h3]; rfl
      | false =>
        rw [ltK_total h1 h2]
        simp
  rw [h]
  simp [binOp, Op.stringOp]
theorem geq_ltK (t : TypeId) (a b : ByteArray) : binOp .geq t (.string a) (.string b) = pure (.bool (!ltK a b)) := by
  show _ = pure (Value.bool (!Op.bytesLess a.toList b.toList))
  simp [binOp, Op.stringOp]
attribute [local go_sem] leq_ltK geq_ltK

def begP (fr : ByteArray) (p : Pr) : Bool := Lib.hasPrefix p.1.data.toList fr.data.toList
def strOf : Value → ByteArray
  | .string s => s
  | _ => ⟨#[]⟩
theorem ltK_empty {k : ByteArray} (h : 1 ≤ k.size) : ltK ⟨#[]⟩ k = true := by
  cases h1 : ltK ⟨#[]⟩ k with
  | true => rfl
  | false =>
    cases h2 : ltK k ⟨#[]⟩ with
    | true => exact absurd (ltK_pos h2) (by decide)
    | false => rw [← ltK_total h1 h2] at h; exact absurd h (by decide)
theorem scanP_first {L : List Pr} (h : ∀ p ∈ L, 1 ≤ p.1.size) (fr : ByteArray) : L.filter (scanP fr ⟨#[]⟩) = L.filter (begP fr) :=
  List.filter_congr fun x hx => by unfold scanP begP; rw [ltK_empty (h x hx), Bool.and_true]

set_option maxRecDepth 100000 in
set_option maxHeartbeats 8000000 in
theorem pages_calls (w : World) (v : Value) (ds : List DoR) (h : DoL w v ds) (front : ByteArray) (hf : front.size ≤ maxLen) (most : Int) :
    Calls Try.prog 3 #[v, .string front, .int .i64 most] w fun e w' => e = .returned (.bool true) ∧ Below w.heap.size w w' := by
  obtain ⟨M, hM, hM1, hM2⟩ : ∃ M : Nat, (if most < 1 then 1 else if most > 20 then 20 else most) = (M : Int) ∧ 1 ≤ M ∧ M ≤ 20 := by
    split
    · exact ⟨1, rfl, by omega, by omega⟩
    · split
      · exact ⟨20, rfl, by omega, by omega⟩
      · exact ⟨most.toNat, by omega, by omega, by omega⟩
  have hleast := least_calls most 1 20 w
  rw [hM] at hleast
  have HL := Lib.hid hleast
  obtain ⟨fr, hfr⟩ : ∃ fr, front.extract 0 60 = fr := ⟨_, rfl⟩
  have hcut := cutS_calls front 60 (by omega) w
  rw [show ((60 : Nat) : Int) = 60 from rfl, hfr] at hcut
  have hfs : fr.size ≤ 60 := by rw [← hfr]; simp; omega
  have HC := Lib.hid hcut
  obtain ⟨A, c, rfl, _⟩ := id h
  clear hleast hcut hM hfr
  go_enter Try.func3, Try.ntmps3
  go_wp2_with (first
    | (go_at_call 7; refine HC.out.mono ?_; rintro e w' ⟨rfl, rfl⟩)
    | (go_at_call 8; refine HL.out.mono ?_; rintro e w' ⟨rfl, rfl⟩)
    | (go_at_call 9; refine (new_ok 200 (by omega) (by omega) w).mono ?_; rintro e w1 ⟨bd, FD, rfl, hd1, hF1, hb1⟩)
    | (go_at_call 10; refine (sopen_new w1 hd1 1099511627776 (by omega)).mono ?_; rintro e w2 ⟨sb, rfl, F2, hs2, hsu2, hc2⟩)
    | (go_at_call 11; refine (fewd_calls w2 _ ds (h.below (Below.changed hb1 hc2 hF1))).mono ?_; rintro e w3 ⟨u, rfl, m, hm, HDO, hb3⟩; have hel : (ds.take m).length ≤ 25 := (by rw [List.length_take]; omega); generalize ds.take m = es at HDO hel; obtain ⟨eA, ec, hue, hec, _⟩ := HDO.out w h; subst hue))
  have hst : StI w w3 w1.heap.size sb bd 200 1099511627776 (freshS 200 1099511627776) := StI.below ⟨⟨F2, hs2, fun k hk => by
    rcases hsu2 k hk with h1 | h1
    · exact hF1 k h1
    · exact Nat.le_trans hb1.size h1⟩, fresh_calm _ _, rfl, Below.changed hb1 hc2 hF1, hc2.size⟩ hb3
  have HDL := Lib.hid (HDO.out w h)
  generalize w1.heap.size = B at *
  clear hb3 hc2 hsu2 hs2 hb1 hF1 hd1 HDO h HC HL
  go_loopw [11] (fun i wr => ∃ (k : Nat) (s : SM), k ≤ es.length ∧ i = .int .i64 (k : Int) ∧ StI w wr B sb bd 200 1099511627776 s) (fun i _ => es.length - (intOf i).toNat)
  case atStart => exact ⟨0, _, Nat.zero_le _, rfl, hst⟩
  case round =>
    obtain ⟨k, s, hk, rfl, hS⟩ := hrel
    by_cases hlt : k < es.length
    · obtain ⟨ad, rfl, hadb, a0, a1, a2, a3, hcl, _⟩ := (HDL.out.below hS.bel).at_ hlt
      obtain ⟨lA, lc, hlv, _⟩ := id hcl
      have hfew := few_calls wr _ _ hcl
      rw [hlv] at a2 hfew
      have HF := Lib.hid hfew
      clear hlv hcl hfew hst
      generalize es[k] = d at *
      go_wp2_with (first
        | (go_at_call 13; refine HF.out.mono ?_; rintro e w4 ⟨u4, ys, rfl, HY, hown, hb4⟩; obtain ⟨hcl4, hyl, hys⟩ := hown.few HY.out)
        | (go_at_call 12; refine (commit_st (hS.below hb4) hcl4 hown).mono ?_; rintro e w5 ⟨rfl, hS5, _⟩))
      go_roundw
      case rel => exact ⟨k + 1, _, by omega, by go_num, hS5⟩
      case measure => simp [intOf]; omega
    · obtain rfl : k = es.length := by omega
      clear hst hec
      obtain ⟨hby, hln, hok⟩ := hS.bytes (by omega)
      have HOK := Lib.hid hok
      have hsrt := hS.calm.ok.sorted
      have HSO := Lib.hid hsrt
      have hfirst := scanP_first hS.calm.keys fr
      have HFI := Lib.hid hfirst
      clear hok hsrt hfirst hk hlt
      generalize wr = wB at *
      go_wp2
      go_loopw [12, 14] (fun o a wq => ∃ (zs : List It) (af : ByteArray), a = .string af ∧ af.size ≤ 1000000000 ∧ PutI wB wq wB.heap.size o zs ∧ Hid (zs.map It.pr ++ s.L.filter (scanP fr af) = s.L.filter (begP fr))) (fun _ a _ => (s.L.filter (scanP fr (strOf a))).length)
      case atStart => exact ⟨[], ⟨#[]⟩, rfl, Nat.zero_le _, ⟨World.ownsRow_nil _ _ _ 2, by simp, Below.refl _ _⟩, Lib.hid (by simpa using HFI.out)⟩
      case round =>
        obtain ⟨zs, af, rfl, haf, hI, HZ⟩ := hrel
        obtain ⟨G, hG⟩ : ∃ G, s.L.filter (scanP fr af) = G := ⟨_, rfl⟩
        have hGl : G.length ≤ 271056897 := by rw [← hG]; exact Nat.le_trans (List.length_filter_le _ _) hln
        have hzl : zs.length ≤ 271056897 := by
          have h1 := congrArg List.length HZ.out
          rw [List.length_append, List.length_map] at h1
          have := List.length_filter_le (begP fr) s.L
          omega
        have hSr := hS.below hI.bel
        have hscan := scan_st hSr (by omega) fr af (M : Int) (by omega) haf
        rw [scanL_take, hG] at hscan
        have HSC := Lib.hid hscan
        have hGok : ∀ p ∈ G.take M, PrOk p := fun p hp => HOK.out p ((List.mem_filter.1 (by rw [hG]; exact List.mem_of_mem_take hp)).1)
        have HGO := Lib.hid hGok
        have hnext : ∀ i (hi : i < G.length), ltK af G[i].1 = true ∧ s.L.filter (scanP fr G[i].1) = G.drop (i + 1) := by
          subst hG
          exact fun i hi => page_next HSO.out fr af i hi
        have HNX := Lib.hid hnext
        have HGE := Lib.hid hG
        rw [hG] at HZ
        clear hscan hGok hnext hG
        obtain ⟨oA, oc, rfl, hoc⟩ := hI.form
        obtain ⟨i0, hi0, hz0, hz1, hz2⟩ := info_parts pair_info
        go_upto_region 16 with (go_at_call 14; refine HSC.out.mono ?_; rintro e w6 ⟨u6, rfl, hp6, hb6⟩; obtain ⟨xs, hpx, hgx, hxe⟩ := hp6.pr2 (by rw [List.length_take]; omega) HGO.out; obtain ⟨xA, xc, hue, hxc, hxm, hxn, hxr, _⟩ := id hpx; subst hue; have hxl : xs.length ≤ M := (by have := congrArg List.length hxe; rw [List.length_map, List.length_take] at this; omega))
        have hI6 := hI.below hb6
        have hxo : ∀ k, (Value.slice xA xs.length xc).ownBlock = some k → wr.heap.size ≤ k := by
          obtain ⟨ys, ho, _⟩ := hp6
          exact fun k hk => (World.ownsRow.lt ho k hk).1
        have hone : ∀ u ∈ xs.flatMap itC, u.oneCell' = true := fun u hu => by
          obtain ⟨x, _, hx⟩ := List.mem_flatMap.1 hu
          exact itC_one x u hx
        go_upto_region 17 with (at_builtin; refine wpList_append_any w6 rfl (.tmp 58) (.tmp 59) 39 rfl wB.heap.size 43 i0 _ 2 40 Try.underlying39 hi0 hz0 hz1 hz2 rfl (by omega) (.slice oA zs.length oc) zs.length (zs.flatMap itC) rfl hI6.own w6.heap.size xA xs.length xc (xs.flatMap itC) rfl hxr hone (by simp only [maxLen]; omega) (by omega) hI6.bel.size ?_; intro v7 w7 hown7 hg7 hat7)
        have hI7 : PutI wB w7 wB.heap.size v7 (zs ++ xs) := hI6.pushes (fun x hx => (hgx x hx).low hI.bel.size) hown7 hg7
        by_cases hlast : xs.length < M
        · have hGx : xs.map It.pr = G := by
            have h1 := congrArg List.length hxe
            rw [List.length_map, List.length_take] at h1
            rw [hxe, List.take_of_length_le (by omega)]
          have HP : Hid ((zs ++ xs).map It.pr = s.L.filter (begP fr)) := Lib.hid (by rw [List.map_append, hGx]; exact HZ.out)
          have hS7 := hS.below hI7.bel
          have hall := all_st hS7 (by omega)
          have HALL := Lib.hid hall
          obtain ⟨A7, c7, hv7, hc7⟩ := hI7.form
          subst hv7
          clear hGx hall hat7 hg7 hown7 hI6 hxo hone hpx hxr hgx hp6 HSC HGO HNX HZ HGE hI hSr hxe hoc hb6 hxc hxm
          generalize zs ++ xs = ps at *
          go_wp2_with (first
            | (go_at_call 15; refine HALL.out.mono ?_; rintro e w8 ⟨u8, rfl, hp8, hb8⟩; obtain ⟨ls, hpa, hga, hae⟩ := hp8.pr2 (by omega) HOK.out; obtain ⟨qA, qc, hue, hqc, hqm, hqn, hqr, _⟩ := id hpa; subst hue))
          have hal : ls.length ≤ 271056897 := by
            have := congrArg List.length hae
            rw [List.length_map] at this
            omega
          have HAE := Lib.hid hae
          have HGA := Lib.hid hga
          have hI8 := hI7.below hb8
          have hS8 := hS7.below hb8
          have hle8 := hb8.size
          clear hae hga hp8 hqr HALL hI7 hS7 hb8
          go_loopw [17, 13] (fun i o wq => ∃ (k : Nat) (ws : List It), k ≤ ls.length ∧ i = .int .i64 (k : Int) ∧ PutI w8 wq w7.heap.size o ws ∧ ws.length ≤ k ∧ Hid (ws.map It.pr = ((ls.take k).map It.pr).filter (begP fr))) (fun i _ _ => ls.length - (intOf i).toNat)
          case atStart => exact ⟨0, [], Nat.zero_le _, rfl, ⟨World.ownsRow_nil _ _ _ 2, by simp, Below.refl _ _⟩, Nat.zero_le _, Lib.hid (by simp)⟩
          case round =>
            obtain ⟨k, ws, hk, rfl, hJ, hwl, HWS⟩ := hrel
            obtain ⟨pA, pc, rfl, hpc⟩ := hJ.form
            by_cases hlt : k < ls.length
            · obtain ⟨ad, yA, yc, rfl, hadb, b0, b1, rb, hye, ka⟩ := hpa.at_ hlt
              obtain ⟨_, _, _, _, hrn, _⟩ := id rb
              have hitc : itC ls[k] = [.string ls[k].key, .slice yA ls[k].val.length yc] := by unfold itC; rw [one_self (by rw [hye]; rfl), hye]
              have hb2 : (⟨(ad.add (k * 2)).block, (ad.add (k * 2)).off + 1, none⟩ : Addr).block < w8.heap.size := by
                show (ad.add (k * 2)).block < _
                rw [block_of_add]; exact hadb
              have HAT : Hid (∀ W, Below w8.heap.size w8 W → W.cell? (ad.add (k * 2)) = some (.string ls[k].key) ∧ W.cell? ⟨(ad.add (k * 2)).block, (ad.add (k * 2)).off + 1, none⟩ = some (.slice yA ls[k].val.length yc)) := Lib.hid fun W hW => ⟨(hW.cell (by rw [block_of_add]; exact hadb)).trans b0, (hW.cell hb2).trans b1⟩
              have HGX : Hid (∀ W, Below w8.heap.size w8 W → GIt w7.heap.size ls[k] W) := Lib.hid fun W hW => (HGA.out ls[k] (List.getElem_mem hlt)).changed (Changed.of_below (S := fun _ => False) hW) (NoTy.none _ _)
              have htk : (ls.take (k + 1)).map It.pr = (ls.take k).map It.pr ++ [It.pr ls[k]] := by rw [List.take_succ_eq_append_getElem hlt, List.map_append]; rfl
              have HTK := Lib.hid htk
              have HIT := Lib.hid hitc
              obtain ⟨a0, a1⟩ := HAT.out _ hJ.bel
              by_cases h0 : k = 0
              · subst h0
                clear htk hitc hb2 b0 b1 rb hye hadb
                generalize ls[0] = x at *
                generalize x.val.length = yn at *
                go_wp2
                go_quiet (fail)
                have hJ2 := hJ.drewN nq
                clear hJ a0 a1
                obtain ⟨a0, a1⟩ := HAT.out _ hJ2.bel
                have a0z : (wr.drewN nq).cell? ad = some (.string x.key) := a0
                have a1z : (wr.drewN nq).cell? ⟨ad.block, ad.off + 1, none⟩ = some (.slice yA yn yc) := a1
                generalize wr.drewN nq = w9 at *
                cases hbg : Lib.hasPrefix x.key.data.toList fr.data.toList with
                | true =>
                  have hbc := begins_calls w9 x.key fr ka (by omega)
                  rw [hbg] at hbc
                  have HBC := Lib.hid hbc
                  have HW2 : Hid ((ws ++ [x]).map It.pr = ((ls.take (0 + 1)).map It.pr).filter (begP fr)) := Lib.hid (by rw [HTK.out, List.filter_append, ← HWS.out, List.map_append, List.filter_cons, show begP fr (It.pr x) = true from hbg]; rfl)
                  clear hbc hbg
                  go_wp2_with (first
                    | (go_at_call 16; refine HBC.out.mono ?_; rintro e w' ⟨rfl, rfl⟩)
                    | (at_builtin; refine wpList_appendS (w0 := w8) (W := w9) rfl (.tmp 112) (.tmp 117) 39 43 _ 2 40 rfl Try.underlying39 pair_info rfl (by omega) (by omega) (.slice pA ws.length pc) ws.length (ws.flatMap itC) [.string x.key, .slice yA yn yc] rfl rfl (by simp [Value.oneCell']) rfl hJ2.own hJ2.bel hJ2.bel.size (by omega) ?_; intro v10 w10 hown10 hb10 hg10 hat10))
                  have hJ3 := PutI.push hJ2 ((HGX.out w9 hJ2.bel)) (by rw [HIT.out]; exact hown10) hb10 hg10
                  go_roundw
                  case rel => exact ⟨0 + 1, ws ++ [x], by omega, by go_num, hJ3, by rw [List.length_append, List.length_singleton]; omega, HW2⟩
                  case measure => simp [intOf]; omega
                | false =>
                  have hbc := begins_calls w9 x.key fr ka (by omega)
                  rw [hbg] at hbc
                  have HBC := Lib.hid hbc
                  have HW2 : Hid (ws.map It.pr = ((ls.take (0 + 1)).map It.pr).filter (begP fr)) := Lib.hid (by rw [HTK.out, List.filter_append, ← HWS.out, List.filter_cons, show begP fr (It.pr x) = false from hbg]; simp)
                  clear hbc hbg
                  go_wp2_with (go_at_call 16; refine HBC.out.mono ?_; rintro e w' ⟨rfl, rfl⟩)
                  go_roundw
                  case rel => exact ⟨0 + 1, ws, by omega, by go_num, hJ2, by omega, HW2⟩
                  case measure => simp [intOf]; omega
              · obtain ⟨j, rfl⟩ : ∃ j, k = j + 1 := ⟨k - 1, by omega⟩
                clear h0
                have hltj : j < ls.length := by omega
                obtain ⟨ad', zA, zc, e', hadb', d0, _⟩ := hpa.at_ hltj
                injection e' with e'
                subst e'
                have hord : ltK ls[j].key ls[j + 1].key = true := by
                  have h1 := HSO.out
                  rw [← HAE.out] at h1
                  have h2 := (List.pairwise_iff_getElem.1 h1) j (j + 1) (by simpa using hltj) (by simpa using hlt) (by omega)
                  rw [List.getElem_map, List.getElem_map] at h2
                  exact h2
                have d1 : wr.cell? (ad.add (j * 2)) = some (.string ls[j].key) := (hJ.bel.cell (by rw [block_of_add]; exact hadb)).trans d0
                have hsub : IntKind.i64.wrap (((j + 1 : Nat) : Int) - 1) = (j : Int) := by rw [IntWalk.i64_in _ (by omega)]; omega
                clear htk hitc hb2 b0 b1 rb hye hadb d0
                generalize ls[j + 1] = x at *
                generalize ls[j].key = kj at *
                generalize x.val.length = yn at *
                go_wp2
                go_quiet (fail)
                have hJ2 := hJ.drewN nq
                clear hJ a0 a1 d1 hord
                obtain ⟨a0, a1⟩ := HAT.out _ hJ2.bel
                generalize wr.drewN nq = w9 at *
                cases hbg : Lib.hasPrefix x.key.data.toList fr.data.toList with
                | true =>
                  have hbc := begins_calls w9 x.key fr ka (by omega)
                  rw [hbg] at hbc
                  have HBC := Lib.hid hbc
                  have HW2 : Hid ((ws ++ [x]).map It.pr = ((ls.take (j + 1 + 1)).map It.pr).filter (begP fr)) := Lib.hid (by rw [HTK.out, List.filter_append, ← HWS.out, List.map_append, List.filter_cons, show begP fr (It.pr x) = true from hbg]; rfl)
                  clear hbc hbg
                  go_wp2_with (first
                    | (go_at_call 16; refine HBC.out.mono ?_; rintro e w' ⟨rfl, rfl⟩)
                    | (at_builtin; refine wpList_appendS (w0 := w8) (W := w9) rfl (.tmp 112) (.tmp 117) 39 43 _ 2 40 rfl Try.underlying39 pair_info rfl (by omega) (by omega) (.slice pA ws.length pc) ws.length (ws.flatMap itC) [.string x.key, .slice yA yn yc] rfl rfl (by simp [Value.oneCell']) rfl hJ2.own hJ2.bel hJ2.bel.size (by omega) ?_; intro v10 w10 hown10 hb10 hg10 hat10))
                  have hJ3 := PutI.push hJ2 ((HGX.out w9 hJ2.bel)) (by rw [HIT.out]; exact hown10) hb10 hg10
                  go_roundw
                  case rel => exact ⟨j + 1 + 1, ws ++ [x], by omega, by go_num, hJ3, by rw [List.length_append, List.length_singleton]; omega, HW2⟩
                  case measure => simp [intOf]; omega
                | false =>
                  have hbc := begins_calls w9 x.key fr ka (by omega)
                  rw [hbg] at hbc
                  have HBC := Lib.hid hbc
                  have HW2 : Hid (ws.map It.pr = ((ls.take (j + 1 + 1)).map It.pr).filter (begP fr)) := Lib.hid (by rw [HTK.out, List.filter_append, ← HWS.out, List.filter_cons, show begP fr (It.pr x) = false from hbg]; simp)
                  clear hbc hbg
                  go_wp2_with (go_at_call 16; refine HBC.out.mono ?_; rintro e w' ⟨rfl, rfl⟩)
                  go_roundw
                  case rel => exact ⟨j + 1 + 1, ws, by omega, by go_num, hJ2, by omega, HW2⟩
                  case measure => simp [intOf]; omega
            · obtain rfl : k = ls.length := by omega
              have hSr := hS8.below hJ.bel
              have hIr := hI8.below hJ.bel
              have hPl : ps.length ≤ 271056897 := by
                have h1 := congrArg List.length HP.out
                rw [List.length_map] at h1
                have := List.length_filter_le (begP fr) s.L
                omega
              have hWl : ws.map It.pr = s.L.filter (begP fr) := by rw [HWS.out, List.take_length, HAE.out]
              have hfok : ∀ p ∈ s.L.filter (begP fr), PrOk p := fun p hp => HOK.out p (List.mem_filter.1 hp).1
              obtain ⟨p1, hp1, _, hp1e⟩ := PairsAt.pr2 (L := ps.map It.pr) ⟨ps, hIr.own, hIr.gs, rfl⟩ (by rw [List.length_map]; omega) (by rw [HP.out]; exact hfok)
              obtain ⟨q1, hq1, _, hq1e⟩ := PairsAt.pr2 (L := ws.map It.pr) ⟨ws, OwnR.low hJ.own hle8, hJ.gs, rfl⟩ (by rw [List.length_map]; omega) (by rw [hWl]; exact hfok)
              have hsame := sameP_calls wr _ _ p1 q1 hp1 hq1
              rw [show decide (p1.map It.pr = q1.map It.pr) = true from decide_eq_true (by rw [hp1e, hq1e, HP.out, hWl])] at hsame
              have HSAME := Lib.hid hsame
              have HSC : Hid (∀ W, Below wr.heap.size wr W → Calls Try.prog 14 #[.pointer (some ⟨sb, 0, none⟩), .string ⟨#[]⟩, .string ⟨#[]⟩, .int .i64 0] W fun e w' => ∃ A c, e = .returned (.slice A 0 c) ∧ StI w w' B sb bd 200 1099511627776 s) := Lib.hid fun W hW => by
                refine (scan_st (hSr.below hW) (by omega) ⟨#[]⟩ ⟨#[]⟩ 0 (Nat.zero_le _) (Nat.zero_le _)).mono ?_
                rintro e w' ⟨u, rfl, hp, hb⟩
                rw [scanL_none _ _ _ (Int.le_refl 0)] at hp
                obtain ⟨x0, ho, _, hx⟩ := hp
                have hx0 : x0 = [] := List.map_eq_nil_iff.1 hx
                subst hx0
                obtain ⟨A, c, rfl, _⟩ := ownsRow_slice ho
                exact ⟨A, c, rfl, (hSr.below hW).below hb⟩
              clear hsame hp1 hq1 hp1e hq1e hfok hWl hIr
              go_wp2_with (first
                | (go_at_call 17; refine HSAME.out.mono ?_; rintro e w11 ⟨rfl, n11, rfl⟩)
                | (go_at_call 14; refine (HSC.out _ (Below.drewN (Below.refl _ _) n11)).mono ?_; rintro e w12 ⟨A12, c12, rfl, hS12⟩)
                | (go_at_call 18; refine (lives_calls _).mono ?_; rintro e w13 ⟨rfl, hb13⟩))
              go_ret
              exact ⟨rfl, Below.step hS12.bel hS12.bel.size hb13⟩
        · obtain ⟨k1, hk1⟩ : ∃ k1, xs.length = k1 + 1 := ⟨M - 1, by omega⟩
          have hkx : k1 < xs.length := by omega
          obtain ⟨ad, vA, vc, rfl, hadb, a0, _, _, _, ka⟩ := hpx.at_ hkx
          have hkG : k1 < G.length := by
            have := congrArg List.length hxe
            rw [List.length_map, List.length_take] at this
            omega
          have hkey : xs[k1].key = G[k1].1 := by
            have h1 : (xs.map It.pr)[k1]? = (G.take M)[k1]? := by rw [hxe]
            rw [List.getElem?_map, List.getElem?_eq_getElem hkx, List.getElem?_take, if_pos (by omega), List.getElem?_eq_getElem hkG] at h1
            have h2 := Option.some.inj h1
            rw [← h2]; rfl
          obtain ⟨hlt1, hnx⟩ := HNX.out k1 hkG
          rw [← hkey] at hlt1 hnx
          have hz2 : (zs ++ xs).map It.pr ++ s.L.filter (scanP fr xs[k1].key) = s.L.filter (begP fr) := by
            rw [List.map_append, hxe, hnx, ← HZ.out, List.append_assoc, show k1 + 1 = M by omega, List.take_append_drop]
          have hms : (s.L.filter (scanP fr xs[k1].key)).length < (s.L.filter (scanP fr af)).length := by
            rw [hnx, HGE.out, List.length_drop]
            omega
          have HZ2 := Lib.hid hz2
          have HMS := Lib.hid hms
          have b0 : w7.cell? (ad.add (k1 * 2)) = some (.string xs[k1].key) := (World.cell?_of_block (hg7.block _ (by rw [block_of_add]; exact hadb) (by
            rw [block_of_add]
            intro e
            have h1 := hxo ad.block rfl
            have h2 := (World.ownsRow.lt hI.own ad.block e.symm).2
            omega))).trans a0
          obtain ⟨A7, c7, hv7, hc7⟩ := hI7.form
          subst hv7
          rw [hk1]
          generalize xs[k1].key = kk at *
          have hlt2 : ltK af kk = true := hlt1
          have hlt3 : Op.bytesLess kk.toList af.toList = false := ltK_asymm hlt1
          have hlt4 : (kk.toList == af.toList) = false := ba_ne.2 (Ne.symm (ltK_ne hlt1))
          clear hkey hnx hz2 hms hat7 hg7 hown7 hI6 hxo hone hpx hxr hgx hp6 HSC HGO HNX a0
          go_wp2
          go_roundw
          case rel => exact ⟨zs ++ xs, kk, rfl, ka, hI7, HZ2⟩
          case measure => exact HMS.out
end Go.Proofs.Ytmfjhejhbomlpaa
