/- Calls that came in; walk of the law's few. -/
import Derived.Test.YtmfjhejhbomlpaaTj
set_option linter.unusedVariables false
set_option linter.unusedSimpArgs false
namespace Go.Proofs.Ytmfjhejhbomlpaa
open Go.RowKit Go.Shelf

/-- A call as it came in. -/
structure DoR where
  kind : Int
  n : Int
  lv : Value
  cs : List (Chg × Value)
  kv : Value
  keep : List Bool
def doC (d : DoR) : List Value := [.int .i64 d.kind, .int .i64 d.n, d.lv, d.kv]
def DoOk (w : World) (d : DoR) : Prop := CLr w d.lv d.cs ∧ RL w d.kv (bools d.keep) ∧ -9223372036854775808 ≤ d.n ∧ d.n ≤ 9223372036854775807
def DoL (w : World) (v : Value) (ds : List DoR) : Prop := ∃ A c, v = .slice A ds.length c ∧ ds.length ≤ c ∧ c ≤ maxLen ∧ Reads w w.heap.size 4 A ds.length (ds.flatMap doC) ∧ ∀ d ∈ ds, DoOk w d
section
variable {w w' : World} {v : Value} {ds : List DoR}
theorem RL.below {xs : List Value} (h : RL w v xs) (hb : Below w.heap.size w w') : RL w' v xs := by
  obtain ⟨A, c, h1, h2, h3, h4, hr⟩ := h
  exact ⟨A, c, h1, h2, h3, h4, (hr.below hb).more hb.size⟩
theorem DoOk.below {d : DoR} (h : DoOk w d) (hb : Below w.heap.size w w') : DoOk w' d := ⟨h.1.below hb, RL.below h.2.1 hb, h.2.2⟩
theorem DoL.below (h : DoL w v ds) (hb : Below w.heap.size w w') : DoL w' v ds := by
  obtain ⟨A, c, h1, h2, h3, hr, hx⟩ := h
  exact ⟨A, c, h1, h2, h3, (hr.below hb).more hb.size, fun d hd => (hx d hd).below hb⟩
theorem do_at (ds : List DoR) (k : Nat) (hk : k < ds.length) (j : Nat) (hj : j < 4) : (ds.flatMap doC)[k * 4 + j]? = (doC ds[k])[j]? := flatV_get doC 4 (fun _ => rfl) ds k j ds[k] (List.getElem?_eq_getElem hk) hj
theorem DoL.at_ {A : Option Addr} {n c : Nat} (h : DoL w (.slice A n c) ds) {k : Nat} (hk : k < ds.length) :
    ∃ ad, A = some ad ∧ ad.block < w.heap.size ∧ w.cell? (ad.add (k * 4)) = some (.int .i64 ds[k].kind) ∧ w.cell? ⟨(ad.add (k * 4)).block, (ad.add (k * 4)).off + 1, none⟩ = some (.int .i64 ds[k].n) ∧ w.cell? ⟨(ad.add (k * 4)).block, (ad.add (k * 4)).off + 2, none⟩ = some ds[k].lv ∧ w.cell? ⟨(ad.add (k * 4)).block, (ad.add (k * 4)).off + 3, none⟩ = some ds[k].kv ∧ DoOk w ds[k] := by
  obtain ⟨A', c', e', hc', hmx', hr, hxs⟩ := h
  injection e' with e1 e2 e3
  subst e1 e3
  obtain ⟨ad, rfl, hadb, hcell⟩ := hr.2 (by omega)
  have hj : ∀ j u, 0 < j → j < 4 → (doC ds[k])[j]? = some u → w.cell? ⟨(ad.add (k * 4)).block, (ad.add (k * 4)).off + j, none⟩ = some u := fun j u h0 h4 hu => by
    rw [← addr_pos (ad.add (k * 4)) j (by omega), add_of_add]
    exact hcell (k * 4 + j) _ ((do_at ds k hk j h4).trans hu)
  exact ⟨ad, rfl, hadb, hcell (k * 4) _ ((do_at ds k hk 0 (by omega)).trans rfl), hj 1 _ (by omega) (by omega) rfl, hj 2 _ (by omega) (by omega) rfl, hj 3 _ (by omega) (by omega) rfl, hxs _ (List.getElem_mem hk)⟩
theorem DoL.take {A : Option Addr} {n c : Nat} (h : DoL w (.slice A n c) ds) {k : Nat} (hk : k ≤ ds.length) : DoL w (.slice A k c) (ds.take k) := by
  obtain ⟨A', c', e', hc', hmx', hr, hxs⟩ := h
  injection e' with e1 e2 e3
  subst e1 e3
  have hl : (ds.take k).length = k := by rw [List.length_take]; omega
  refine ⟨A, c, by rw [hl], by omega, hmx', ⟨flatV_len doC 4 (fun _ => rfl) _, fun h0 => ?_⟩, fun d hd => hxs d (List.mem_of_mem_take hd)⟩
  obtain ⟨ad, e, hadb, hcell⟩ := hr.2 (by omega)
  refine ⟨ad, e, hadb, fun j u hu => hcell j u ?_⟩
  have e2 : ds.flatMap doC = (ds.take k).flatMap doC ++ (ds.drop k).flatMap doC := by rw [← List.flatMap_append, List.take_append_drop]
  rw [e2, List.getElem?_append_left (List.getElem?_eq_some_iff.1 hu).1]
  exact hu
end
theorem fewC_ok {cs : List Chg} : (fewC cs).length ≤ 20 ∧ ∀ c ∈ fewC cs, c.key.size ≤ 60 ∧ c.val.length ≤ 4200 := by
  refine ⟨by unfold fewC; rw [List.length_map, List.length_take]; omega, fun c hc => ?_⟩
  obtain ⟨d, _, rfl⟩ := List.mem_map.1 hc
  refine ⟨?_, by show (d.val.take 4200).length ≤ 4200; rw [List.length_take]; omega⟩
  show (cutK d.key 60).size ≤ 60
  unfold cutK
  split
  · simp
    omega
  · omega
theorem OwnCL.few {w : World} {B : Nat} {v : Value} {ys : List (Chg × Value)} {cs : List Chg} (h : OwnCL w B v ys) (hy : ys.map Prod.fst = fewC cs) : CL w v ys ∧ ys.length ≤ 20 ∧ ∀ y ∈ ys, y.1.key.size ≤ 60 ∧ y.1.val.length ≤ 4200 := by
  obtain ⟨h1, h2⟩ := fewC_ok (cs := cs)
  rw [← hy] at h1 h2
  rw [List.length_map] at h1
  have h3 : ∀ y ∈ ys, y.1.key.size ≤ 60 ∧ y.1.val.length ≤ 4200 := fun y hy => h2 y.1 (List.mem_map.2 ⟨y, hy, rfl⟩)
  exact ⟨h.cl (by omega) (fun y hy => ⟨by have := (h3 y hy).1; omega, by have := (h3 y hy).2; omega⟩), h1, h3⟩

set_option maxRecDepth 100000 in
set_option maxHeartbeats 4000000 in
theorem fewd_calls (w : World) (v : Value) (ds : List DoR) (h : DoL w v ds) :
    Calls Try.prog 11 #[v] w fun e w' => ∃ u, e = .returned u ∧ ∃ m, m ≤ 25 ∧ Hid (∀ W0, DoL W0 v ds → DoL W0 u (ds.take m)) ∧ Below w.heap.size w w' := by
  obtain ⟨A, c, rfl, hc, hm, _, _⟩ := id h
  go_enter Try.func11, Try.ntmps11
  go_wp2
  go_loopw [4, 3] (fun i y wr => ∃ k q : Nat, k ≤ ds.length ∧ k ≤ 25 ∧ i = .int .i64 (k : Int) ∧ y = .int .i64 (q : Int) ∧ q ≤ 85200 * k ∧ Below w.heap.size w wr) (fun i _ _ => ds.length - (intOf i).toNat)
  case atStart => exact ⟨0, 0, Nat.zero_le _, Nat.zero_le _, rfl, rfl, Nat.zero_le _, Below.refl _ _⟩
  case round =>
    obtain ⟨k, q, hk, hk2, rfl, rfl, hq, hbr⟩ := hrel
    by_cases hlt : k < ds.length
    · by_cases hlt2 : k < 25
      · obtain ⟨ad, rfl, hadb, a0, a1, a2, a3, hcl, _⟩ := (h.below hbr).at_ hlt
        obtain ⟨lA, lc, hlv, _⟩ := id hcl
        rw [hlv] at a2
        have hfew := few_calls wr _ _ hcl
        rw [hlv] at hfew
        have HF := Lib.hid hfew
        clear hlv hcl hfew
        generalize ds[k] = d at *
        go_wp2_with (go_at_call 13; refine HF.out.mono ?_; rintro e w2 ⟨u, ys, rfl, HY, hown, hb2⟩; obtain ⟨⟨uA, uc, hu, huc, hum, hun, hur, hux⟩, hyl, hys⟩ := hown.few HY.out; subst hu)
        have hb3 := Below.step hbr hbr.size hb2
        have H1 := Lib.hid hb3
        have HD : Hid (∀ W0, DoL W0 (.slice (some ad) ds.length c) ds → DoL W0 (.slice (some ad) k c) (ds.take k)) := Lib.hid fun W0 h0 => h0.take (by omega)
        have HYS := Lib.hid hys
        clear hb2 hbr hb3 hys hown HY a0 a1 a2 a3 HF
        go_loop [6, 3] (fun j y => ∃ m p : Nat, m ≤ ys.length ∧ j = .int .i64 (m : Int) ∧ y = .int .i64 (p : Int) ∧ p ≤ 85200 * k + 4260 * m) (fun j _ => ys.length - (intOf j).toNat)
        case atStart => exact ⟨0, q, Nat.zero_le _, rfl, rfl, by omega⟩
        case round =>
          obtain ⟨m, p, hm1, rfl, rfl, hp⟩ := hrel
          by_cases hlt3 : m < ys.length
          · obtain ⟨ad2, e, hadb2, hcell⟩ := hur.2 (by omega)
            subst e
            have c2 : w2.cell? ⟨(ad2.add (m * 3)).block, (ad2.add (m * 3)).off + 2, none⟩ = some ys[m].2 := by
              rw [← addr_pos (ad2.add (m * 3)) 2 (by omega), add_of_add]
              exact hcell (m * 3 + 2) _ ((chc_at ys m hlt3 2 (by omega)).trans rfl)
            obtain ⟨vA, vc, hve, _⟩ := (hux ys[m] (List.getElem_mem hlt3)).1
            have hvl := (HYS.out ys[m] (List.getElem_mem hlt3)).2
            rw [hve] at c2
            clear hcell hve
            generalize ys[m].1.val.length = nv at *
            go_wp2
            go_round
            case rel => exact ⟨m + 1, p + 60 + nv, by omega, by go_num, by go_num, by omega⟩
            case measure => simp [intOf]; omega
          · obtain rfl : m = ys.length := by omega
            by_cases hgt : 60000 < p
            · go_wp2
              go_ret
              exact ⟨_, rfl, k, by omega, HD, H1.out⟩
            · go_wp2
              go_roundw
              case rel => exact ⟨k + 1, p, by omega, by omega, by go_num, rfl, by omega, H1.out⟩
              case measure => simp [intOf]; omega
      · obtain rfl : k = 25 := by omega
        have hd := (h.below hbr)
        by_cases hgt : 25 < ds.length
        · obtain ⟨ad, rfl, _⟩ := hd.at_ hgt
          have HD : Hid (∀ W0, DoL W0 (.slice (some ad) ds.length c) ds → DoL W0 (.slice (some ad) 25 c) (ds.take 25)) := Lib.hid fun W0 h0 => h0.take (by omega)
          clear hd
          go_wp2
          go_ret
          exact ⟨_, rfl, 25, Nat.le_refl _, HD, hbr⟩
        · exact absurd hlt hgt
    · obtain rfl : k = ds.length := by omega
      have HD : Hid (∀ W0, DoL W0 (.slice A ds.length c) ds → DoL W0 (.slice A ds.length c) (ds.take 25)) := Lib.hid fun W0 h0 => by rw [List.take_of_length_le (by omega)]; exact h0
      go_wp2
      go_ret
      exact ⟨_, rfl, 25, Nat.le_refl _, HD, hbr⟩
end Go.Proofs.Ytmfjhejhbomlpaa
