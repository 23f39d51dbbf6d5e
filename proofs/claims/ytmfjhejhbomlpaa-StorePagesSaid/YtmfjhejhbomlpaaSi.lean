/- Bytes as changes: the walk that reads a change. -/
import Derived.Test.YtmfjhejhbomlpaaSh
set_option linter.unusedVariables false
set_option linter.unusedSimpArgs false
namespace Go.Proofs.Ytmfjhejhbomlpaa
open Go.RowKit

/-- The first change of a text, and what is behind. -/
def changeB : List UInt8 → Option (Chg × List UInt8)
  | [] => none
  | k :: r => if 1 < k.toNat then none else
    match pieceB r with
    | none => none
    | some (key, r1) => if k.toNat = 1 then some (⟨⟨key.toArray⟩, true, []⟩, r1) else
      match pieceB r1 with
      | none => none
      | some (val, r2) => some (⟨⟨key.toArray⟩, false, val⟩, r2)

theorem RB.tail {w : World} {v : Value} {k : UInt8} {r : List UInt8} (h : RB w v (k :: r)) : ∃ ad n c, v = .slice (some ad) n c ∧ w.cell? ad = some (.int .u8 (k.toNat : Int)) ∧ ad.block < w.heap.size ∧ 1 ≤ n ∧ n ≤ c ∧ c ≤ maxLen ∧ n ≤ 140737488351232 ∧ RB w (.slice (if c = 1 then some ad else some ⟨ad.block, ad.off + 1, none⟩) (n - 1) (c - 1)) r := by
  have hrb := h
  obtain ⟨A, c, rfl, hc, hn, hm, hr⟩ := h
  obtain ⟨ad, rfl, hb, hcell⟩ := hr.2 (by simp)
  have h0 := hcell 0 (.int .u8 (k.toNat : Int)) rfl
  have hz : ad.add 0 = ad := by unfold Addr.add; simp
  rw [hz] at h0
  have hd := RB.drop (k := 1) hrb (by simp)
  refine ⟨ad, _, c, rfl, h0, hb, by simp, hc, hm, hn, ?_⟩
  rw [← addr_pos ad 1 (by omega)]
  exact hd

set_option maxRecDepth 100000 in
set_option maxHeartbeats 2000000 in
theorem change_no0 (w : World) (v : Value) (h : RB w v []) :
    Calls Try.prog 55 #[v] w fun e w' => ∃ c0 c1 A n cc rv, e = .returned (.tuple #[.agg #[.string c0, .bool c1, .slice A n cc], rv, .bool false]) ∧ Below w.heap.size w w' := by
  obtain ⟨A, c, rfl, hc, hn, hm, hr⟩ := h
  go_enter Try.func55, Try.ntmps55
  go_wp2
  exact bodyPost_ret (v := .tuple #[.agg #[.string ⟨#[]⟩, .bool false, .slice none 0 0], .slice none 0 0, .bool false]) (by simp [results, Try.results55, go_sem]) rfl ⟨_, _, _, _, _, _, rfl, (Below.refl _ _).alloc (Nat.le_refl _) _⟩
set_option maxRecDepth 100000 in
set_option maxHeartbeats 2000000 in
theorem change_no1 (w : World) (v : Value) (k : UInt8) (r : List UInt8) (h : RB w v (k :: r)) (hk : 1 < k.toNat) :
    Calls Try.prog 55 #[v] w fun e w' => ∃ c0 c1 A n cc rv, e = .returned (.tuple #[.agg #[.string c0, .bool c1, .slice A n cc], rv, .bool false]) ∧ Below w.heap.size w w' := by
  obtain ⟨ad, n, c, rfl, h0, hadb, hn1, hnc, hcm, hnm, hrb⟩ := h.tail
  unfold maxLen at hcm
  have h2 : ((n : Int) == 0) = false := by rw [beq_eq_false_iff_ne]; omega
  have h1 : (1 : Int) < (k.toNat : Int) := by omega
  clear h hk hrb
  go_enter Try.func55, Try.ntmps55
  go_wp2
  exact bodyPost_ret (v := .tuple #[.agg #[.string ⟨#[]⟩, .bool false, .slice none 0 0], .slice none 0 0, .bool false]) (by simp [results, Try.results55, go_sem]) rfl ⟨_, _, _, _, _, _, rfl, (Below.refl _ _).alloc (Nat.le_refl _) _⟩
set_option maxRecDepth 100000 in
set_option maxHeartbeats 2000000 in
theorem change_no2 (w : World) (v : Value) (k : UInt8) (r : List UInt8) (h : RB w v (k :: r)) (hk : ¬ 1 < k.toNat) (hp : pieceB r = none) :
    Calls Try.prog 55 #[v] w fun e w' => ∃ c0 c1 A n cc rv, e = .returned (.tuple #[.agg #[.string c0, .bool c1, .slice A n cc], rv, .bool false]) ∧ Below w.heap.size w w' := by
  obtain ⟨ad, n, c, rfl, h0, hadb, hn1, hnc, hcm, hnm, hrb⟩ := h.tail
  unfold maxLen at hcm
  have h2 : ((n : Int) == 0) = false := by rw [beq_eq_false_iff_ne]; omega
  have h1 : (k.toNat : Int) ≤ 1 := by omega
  have HP := Lib.hid hp
  clear hp
  by_cases hc1 : c = 1
  · rw [if_pos hc1] at hrb
    subst hc1
    obtain rfl : n = 1 := by omega
    have HRB := Lib.hid hrb
    clear h hrb hk
    go_enter Try.func55, Try.ntmps55
    go_wp2_with (first
      | (go_at_call 72; refine (piece_no _ _ _ ((HRB.out.alloc _).alloc _) HP.out).mono ?_; rintro e w' ⟨rfl, rfl⟩))
    exact bodyPost_ret (v := .tuple #[.agg #[.string ⟨#[]⟩, .bool false, .slice none 0 0], .slice none 0 0, .bool false]) (by simp [results, Try.results55, go_sem]) rfl ⟨_, _, _, _, _, _, rfl, ((Below.refl _ _).alloc (Nat.le_refl _) _).alloc (by simp) _⟩
  · rw [if_neg hc1] at hrb
    have HRB := Lib.hid hrb
    clear h hrb hk
    go_enter Try.func55, Try.ntmps55
    go_wp2_with (first
      | (go_at_call 72; refine (piece_no _ _ _ ((HRB.out.alloc _).alloc _) HP.out).mono ?_; rintro e w' ⟨rfl, rfl⟩))
    exact bodyPost_ret (v := .tuple #[.agg #[.string ⟨#[]⟩, .bool false, .slice none 0 0], .slice none 0 0, .bool false]) (by simp [results, Try.results55, go_sem]) rfl ⟨_, _, _, _, _, _, rfl, ((Below.refl _ _).alloc (Nat.le_refl _) _).alloc (by simp) _⟩
theorem RB.tail' {W : World} {ad : Addr} {n c : Nat} {k : UInt8} {r : List UInt8} (h : RB W (.slice (some ad) n c) (k :: r)) : RB W (.slice (if c = 1 then some ad else some ⟨ad.block, ad.off + 1, none⟩) (n - 1) (c - 1)) r := by
  obtain ⟨ad', n', c', e, _, _, _, _, _, _, h⟩ := h.tail
  injection e with e1 e2 e3
  injection e1 with e1
  subst e1 e2 e3
  exact h
theorem fin_cells {W0 : World} {N : Nat} {ZA : Array Value} {t : TypeId} (h : Blk W0 N t ZA) (hs : ZA.size = 3) (x y z : Value) :
    (((W0.setCell ⟨N, 0, none⟩ x).setCell ⟨N, 1, none⟩ y).setCell ⟨N, 2, none⟩ z).cell? ⟨N, 0, none⟩ = some x ∧ (((W0.setCell ⟨N, 0, none⟩ x).setCell ⟨N, 1, none⟩ y).setCell ⟨N, 2, none⟩ z).cell? ⟨N, 1, none⟩ = some y ∧ (((W0.setCell ⟨N, 0, none⟩ x).setCell ⟨N, 1, none⟩ y).setCell ⟨N, 2, none⟩ z).cell? ⟨N, 2, none⟩ = some z := by
  have f := ((h.set_ 0 x).set_ 1 y).set_ 2 z
  have e : ((ZA.setIfInBounds 0 x).setIfInBounds 1 y).setIfInBounds 2 z = #[x, y, z] := by
    obtain ⟨l⟩ := ZA
    match l, hs with
    | [a, b, c], _ => simp
  rw [e] at f
  exact ⟨f.cell 0, f.cell 1, f.cell 2⟩
theorem fin_below {w W0 : World} {B N : Nat} (h : Below B w W0) (hN : B ≤ N) (x y z : Value) : Below B w (((W0.setCell ⟨N, 0, none⟩ x).setCell ⟨N, 1, none⟩ y).setCell ⟨N, 2, none⟩ z) :=
  ((h.setCell (p := ⟨N, 0, none⟩) hN _).setCell (p := ⟨N, 1, none⟩) hN _).setCell (p := ⟨N, 2, none⟩) hN _

set_option maxRecDepth 100000 in
set_option maxHeartbeats 2000000 in
theorem change_del (w : World) (v : Value) (k : UInt8) (r : List UInt8) (h : RB w v (k :: r)) (hk : k.toNat = 1) (key r1 : List UInt8) (hp : pieceB r = some (key, r1)) :
    Calls Try.prog 55 #[v] w fun e w' => ∃ rv, e = .returned (.tuple #[.agg #[.string ⟨key.toArray⟩, .bool true, .slice none 0 0], rv, .bool true]) ∧ Hid (∀ W, RB W v (k :: r) → RB W rv r1) ∧ Below w.heap.size w w' := by
  obtain ⟨ad, n, c, rfl, h0, hadb, hn1, hnc, hcm, hnm, hrb⟩ := h.tail
  unfold maxLen at hcm
  have h2 : ((n : Int) == 0) = false := by rw [beq_eq_false_iff_ne]; omega
  have h1 : ((k.toNat : Int) == 1) = true := by rw [beq_iff_eq]; omega
  have h4 : (k.toNat : Int) ≤ 1 := by omega
  have HP := Lib.hid hp
  clear hp
  by_cases hc1 : c = 1
  · rw [if_pos hc1] at hrb
    subst hc1
    obtain rfl : n = 1 := by omega
    have HRB := Lib.hid hrb
    have HQ := Lib.hid ((hrb.alloc (.cells #[.string ⟨#[]⟩, .bool false, .slice none 0 0] 81)).alloc (.cells #[.string ⟨#[]⟩, .bool true, .slice none 0 0] 81))
    clear h hrb hk
    go_enter Try.func55, Try.ntmps55
    go_wp2_with (first
      | (go_at_call 72; refine (piece_ok _ _ _ _ _ HQ.out HP.out).mono ?_; rintro e w' ⟨v1, v2, rfl, HB, nq, rfl⟩; have hts := toStr_run (P := Try.prog) 41 9 5 Try.underlying41 Try.underlying5 Try.underlying9 ((HB.out _ HQ.out).1.drewN nq)))
    obtain ⟨hv1, hv2⟩ := HB.out w HRB.out
    have hb0 : Blk (((w.alloc (.cells #[.string ⟨#[]⟩, .bool false, .slice none 0 0] 81)).alloc (.cells #[.string ⟨#[]⟩, .bool true, .slice none 0 0] 81)).drewN nq) w.heap.size 81 #[.string ⟨#[]⟩, .bool false, .slice none 0 0] := ((Blk.new w 81 _).alloc _).drewN nq
    have hbl : Below w.heap.size w (((w.alloc (.cells #[.string ⟨#[]⟩, .bool false, .slice none 0 0] 81)).alloc (.cells #[.string ⟨#[]⟩, .bool true, .slice none 0 0] 81)).drewN nq) := Below.drewN (((Below.refl _ _).alloc (Nat.le_refl _) _).alloc (by simp) _) nq
    have hb1 := hb0.far (p := ⟨w.heap.size + 1, 0, none⟩) (by simp) (.string ⟨key.toArray⟩)
    have hbl1 := hbl.setCell (p := ⟨w.heap.size + 1, 0, none⟩) (by simp) (.string ⟨key.toArray⟩)
    obtain ⟨f0, f1, f2⟩ := fin_cells hb1 rfl (.string ⟨key.toArray⟩) (.bool true) (.slice none 0 0)
    have hfb := fin_below hbl1 (Nat.le_refl _) (.string ⟨key.toArray⟩) (.bool true) (.slice none 0 0)
    clear hts hb0 hbl hb1 hbl1
    generalize ((((((w.alloc (Obj.cells #[.string ⟨#[]⟩, .bool false, .slice none 0 0] 81)).alloc (Obj.cells #[.string ⟨#[]⟩, .bool true, .slice none 0 0] 81)).drewN nq).setCell ⟨w.heap.size + 1, 0, none⟩ (.string ⟨key.toArray⟩)).setCell ⟨w.heap.size, 0, none⟩ (.string ⟨key.toArray⟩)).setCell ⟨w.heap.size, 1, none⟩ (.bool true)).setCell ⟨w.heap.size, 2, none⟩ (.slice none 0 0) = wf at *
    exact bodyPost_ret (v := .tuple #[.agg #[.string ⟨key.toArray⟩, .bool true, .slice none 0 0], v2, .bool true]) (by simp [results, Try.results55, go_sem, f0, f1, f2]) rfl ⟨_, rfl, Lib.hid (fun W hW => (HB.out W (by have := hW.tail'; rwa [if_pos rfl] at this)).2), hfb⟩
  · rw [if_neg hc1] at hrb
    have HRB := Lib.hid hrb
    have HQ := Lib.hid ((hrb.alloc (.cells #[.string ⟨#[]⟩, .bool false, .slice none 0 0] 81)).alloc (.cells #[.string ⟨#[]⟩, .bool true, .slice none 0 0] 81))
    clear h hrb hk
    go_enter Try.func55, Try.ntmps55
    go_wp2_with (first
      | (go_at_call 72; refine (piece_ok _ _ _ _ _ HQ.out HP.out).mono ?_; rintro e w' ⟨v1, v2, rfl, HB, nq, rfl⟩; have hts := toStr_run (P := Try.prog) 41 9 5 Try.underlying41 Try.underlying5 Try.underlying9 ((HB.out _ HQ.out).1.drewN nq)))
    obtain ⟨hv1, hv2⟩ := HB.out w HRB.out
    have hb0 : Blk (((w.alloc (.cells #[.string ⟨#[]⟩, .bool false, .slice none 0 0] 81)).alloc (.cells #[.string ⟨#[]⟩, .bool true, .slice none 0 0] 81)).drewN nq) w.heap.size 81 #[.string ⟨#[]⟩, .bool false, .slice none 0 0] := ((Blk.new w 81 _).alloc _).drewN nq
    have hbl : Below w.heap.size w (((w.alloc (.cells #[.string ⟨#[]⟩, .bool false, .slice none 0 0] 81)).alloc (.cells #[.string ⟨#[]⟩, .bool true, .slice none 0 0] 81)).drewN nq) := Below.drewN (((Below.refl _ _).alloc (Nat.le_refl _) _).alloc (by simp) _) nq
    have hb1 := hb0.far (p := ⟨w.heap.size + 1, 0, none⟩) (by simp) (.string ⟨key.toArray⟩)
    have hbl1 := hbl.setCell (p := ⟨w.heap.size + 1, 0, none⟩) (by simp) (.string ⟨key.toArray⟩)
    obtain ⟨f0, f1, f2⟩ := fin_cells hb1 rfl (.string ⟨key.toArray⟩) (.bool true) (.slice none 0 0)
    have hfb := fin_below hbl1 (Nat.le_refl _) (.string ⟨key.toArray⟩) (.bool true) (.slice none 0 0)
    clear hts hb0 hbl hb1 hbl1
    generalize ((((((w.alloc (Obj.cells #[.string ⟨#[]⟩, .bool false, .slice none 0 0] 81)).alloc (Obj.cells #[.string ⟨#[]⟩, .bool true, .slice none 0 0] 81)).drewN nq).setCell ⟨w.heap.size + 1, 0, none⟩ (.string ⟨key.toArray⟩)).setCell ⟨w.heap.size, 0, none⟩ (.string ⟨key.toArray⟩)).setCell ⟨w.heap.size, 1, none⟩ (.bool true)).setCell ⟨w.heap.size, 2, none⟩ (.slice none 0 0) = wf at *
    exact bodyPost_ret (v := .tuple #[.agg #[.string ⟨key.toArray⟩, .bool true, .slice none 0 0], v2, .bool true]) (by simp [results, Try.results55, go_sem, f0, f1, f2]) rfl ⟨_, rfl, Lib.hid (fun W hW => (HB.out W (by have := hW.tail'; rwa [if_neg hc1] at this)).2), hfb⟩
set_option maxRecDepth 100000 in
set_option maxHeartbeats 2000000 in
theorem change_put (w : World) (v : Value) (k : UInt8) (r : List UInt8) (h : RB w v (k :: r)) (hk : k.toNat = 0) (key r1 val r2 : List UInt8) (hp : pieceB r = some (key, r1)) (hp2 : pieceB r1 = some (val, r2)) :
    Calls Try.prog 55 #[v] w fun e w' => ∃ u rv, e = .returned (.tuple #[.agg #[.string ⟨key.toArray⟩, .bool false, u], rv, .bool true]) ∧ OwnB w' w.heap.size 5 u val ∧ Hid (∀ W, RB W v (k :: r) → RB W rv r2) ∧ Below w.heap.size w w' := by
  obtain ⟨ad, n, c, rfl, h0, hadb, hn1, hnc, hcm, hnm, hrb⟩ := h.tail
  unfold maxLen at hcm
  have h2 : ((n : Int) == 0) = false := by rw [beq_eq_false_iff_ne]; omega
  have h1 : ((k.toNat : Int) == 1) = false := by rw [beq_eq_false_iff_ne]; omega
  have h4 : (k.toNat : Int) ≤ 1 := by omega
  have HP := Lib.hid hp
  have HP2 := Lib.hid hp2
  clear hp hp2
  by_cases hc1 : c = 1
  · rw [if_pos hc1] at hrb
    subst hc1
    obtain rfl : n = 1 := by omega
    have HRB := Lib.hid hrb
    have HQ := Lib.hid ((hrb.alloc (.cells #[.string ⟨#[]⟩, .bool false, .slice none 0 0] 81)).alloc (.cells #[.string ⟨#[]⟩, .bool false, .slice none 0 0] 81))
    clear h hrb hk
    go_enter Try.func55, Try.ntmps55
    go_wp2_with (first
      | (go_at_call 72; refine (piece_ok _ _ _ _ _ HQ.out HP.out).mono ?_; rintro e w' ⟨v1, v2, rfl, HB, nq, rfl⟩; have hp1 := HP.out; clear HP; have hts := toStr_run (P := Try.prog) 41 9 5 Try.underlying41 Try.underlying5 Try.underlying9 ((HB.out _ HQ.out).1.drewN nq))
      | (go_at_call 72; have _t := HP2; have hA1 := (((Blk.new w 81 #[.string ⟨#[]⟩, .bool false, .slice none 0 0]).alloc (.cells #[.string ⟨#[]⟩, .bool false, .slice none 0 0] 81)).drewN nq).far (p := ⟨w.heap.size + 1, 0, none⟩) (by simp) (.string ⟨key.toArray⟩); have hB1 : Blk ((((w.alloc (.cells #[.string ⟨#[]⟩, .bool false, .slice none 0 0] 81)).alloc (.cells #[.string ⟨#[]⟩, .bool false, .slice none 0 0] 81)).drewN nq).setCell ⟨w.heap.size + 1, 0, none⟩ (.string ⟨key.toArray⟩)) (w.heap.size + 1) 81 #[.string ⟨key.toArray⟩, .bool false, .slice none 0 0] := by { have hq := ((Blk.new (w.alloc (.cells #[.string ⟨#[]⟩, .bool false, .slice none 0 0] 81)) 81 #[.string ⟨#[]⟩, .bool false, .slice none 0 0]).drewN nq).set_ 0 (.string ⟨key.toArray⟩); simpa using hq }; have hbl1 := (Below.drewN (((Below.refl w.heap.size w).alloc (Nat.le_refl _) (.cells #[.string ⟨#[]⟩, .bool false, .slice none 0 0] 81)).alloc (by simp) (.cells #[.string ⟨#[]⟩, .bool false, .slice none 0 0] 81)) nq).setCell (p := ⟨w.heap.size + 1, 0, none⟩) (by simp) (.string ⟨key.toArray⟩); generalize ((((w.alloc (.cells #[.string ⟨#[]⟩, .bool false, .slice none 0 0] 81)).alloc (.cells #[.string ⟨#[]⟩, .bool false, .slice none 0 0] 81)).drewN nq).setCell ⟨w.heap.size + 1, 0, none⟩ (.string ⟨key.toArray⟩)) = W1 at *; clear hts; have hrb2 := (HB.out w HRB.out).2.below hbl1; refine (piece_ok _ _ _ _ _ hrb2 HP2.out).mono ?_; clear HP2; rintro e w' ⟨u1, u2, rfl, HB2, nq2, rfl⟩)
      | (go_at_call 47; refine (clone_calls _ _ _ ((HB2.out _ hrb2).1.drewN nq2)).mono ?_; rintro e w8 ⟨v8, rfl, hown8, hb8⟩; obtain ⟨A8, c8, hv8, hc8, hr8⟩ := Own.reads hown8; subst hv8; have hA8 := (hA1.drewN nq2).below hb8 (by have := hA1.lt; simpa using this); have hB8 := (hB1.drewN nq2).below hb8 (by have := hB1.lt; simpa using this); have hbl8 := Below.step (Below.drewN hbl1 nq2) (by have := hbl1.size; simpa using this) hb8; have e0 : w8.cell? ⟨w.heap.size + 1, 0, none⟩ = some (.string ⟨key.toArray⟩) := hB8.cell 0; have e1 : w8.cell? ⟨w.heap.size + 1, 1, none⟩ = some (.bool false) := hB8.cell 1; have e2 : w8.cell? ⟨w.heap.size + 1, 2, none⟩ = some (.slice none 0 0) := hB8.cell 2; have e3 := hB8.frozen 0; have e4 := hB8.frozen 1; have e5 := hB8.frozen 2; have e6 := hA8.frozen 0; have e7 := hA8.frozen 1; have e8 := hA8.frozen 2; have g0 : w8.cell? ⟨w.heap.size, 0, none⟩ = some (.string ⟨#[]⟩) := hA8.cell 0; have g1 : w8.cell? ⟨w.heap.size, 1, none⟩ = some (.bool false) := hA8.cell 1; have g2 : w8.cell? ⟨w.heap.size, 2, none⟩ = some (.slice none 0 0) := hA8.cell 2))
    have hA9 := hA8.far (p := ⟨w.heap.size + 1, 2, none⟩) (by simp) (.slice A8 (bs val).length c8)
    obtain ⟨f0, f1, f2⟩ := fin_cells hA9 rfl (.string ⟨key.toArray⟩) (.bool false) (.slice A8 (bs val).length c8)
    have hfb := fin_below (hbl8.setCell (p := ⟨w.heap.size + 1, 2, none⟩) (by simp) (.slice A8 (bs val).length c8)) (Nat.le_refl _) (.string ⟨key.toArray⟩) (.bool false) (.slice A8 (bs val).length c8)
    have hfc : Changed (fun k => k = w.heap.size ∨ k = w.heap.size + 1) w8 ((((w8.setCell ⟨w.heap.size + 1, 2, none⟩ (.slice A8 (bs val).length c8)).setCell ⟨w.heap.size, 0, none⟩ (.string ⟨key.toArray⟩)).setCell ⟨w.heap.size, 1, none⟩ (.bool false)).setCell ⟨w.heap.size, 2, none⟩ (.slice A8 (bs val).length c8)) := (((Changed.setCell (S := fun k => k = w.heap.size ∨ k = w.heap.size + 1) w8 ⟨w.heap.size + 1, 2, none⟩ _ (.inr rfl)).trans (Changed.setCell (S := fun k => k = w.heap.size ∨ k = w.heap.size + 1) _ ⟨w.heap.size, 0, none⟩ _ (.inl rfl)) (fun _ h => .inl h)).trans (Changed.setCell (S := fun k => k = w.heap.size ∨ k = w.heap.size + 1) _ ⟨w.heap.size, 1, none⟩ _ (.inl rfl)) (fun _ h => .inl h)).trans (Changed.setCell (S := fun k => k = w.heap.size ∨ k = w.heap.size + 1) _ ⟨w.heap.size, 2, none⟩ _ (.inl rfl)) (fun _ h => .inl h)
    have hnt : NoTy w8 (fun k => k = w.heap.size ∨ k = w.heap.size + 1) 5 := fun j hj ht => by
      rcases hj with rfl | rfl
      · exact absurd (hA8.ty.uniq ht) (by decide)
      · exact absurd (hB8.ty.uniq ht) (by decide)
    have hof := Own.low (OwnB.changed hown8 hfc hnt) (b := w.heap.size) (by have := hbl1.size; simpa using this)
    generalize ((((w8.setCell ⟨w.heap.size + 1, 2, none⟩ (.slice A8 (bs val).length c8)).setCell ⟨w.heap.size, 0, none⟩ (.string ⟨key.toArray⟩)).setCell ⟨w.heap.size, 1, none⟩ (.bool false)).setCell ⟨w.heap.size, 2, none⟩ (.slice A8 (bs val).length c8)) = wf at *
    exact bodyPost_ret (v := .tuple #[.agg #[.string ⟨key.toArray⟩, .bool false, .slice A8 (bs val).length c8], u2, .bool true]) (by simp [results, Try.results55, go_sem, f0, f1, f2]) rfl ⟨_, _, rfl, hof, Lib.hid (fun W hW => (HB2.out W (HB.out W (by have := hW.tail'; rwa [if_pos rfl] at this)).2).2), hfb⟩
  · rw [if_neg hc1] at hrb
    have HRB := Lib.hid hrb
    have HQ := Lib.hid ((hrb.alloc (.cells #[.string ⟨#[]⟩, .bool false, .slice none 0 0] 81)).alloc (.cells #[.string ⟨#[]⟩, .bool false, .slice none 0 0] 81))
    clear h hrb hk
    go_enter Try.func55, Try.ntmps55
    go_wp2_with (first
      | (go_at_call 72; refine (piece_ok _ _ _ _ _ HQ.out HP.out).mono ?_; rintro e w' ⟨v1, v2, rfl, HB, nq, rfl⟩; have hp1 := HP.out; clear HP; have hts := toStr_run (P := Try.prog) 41 9 5 Try.underlying41 Try.underlying5 Try.underlying9 ((HB.out _ HQ.out).1.drewN nq))
      | (go_at_call 72; have _t := HP2; have hA1 := (((Blk.new w 81 #[.string ⟨#[]⟩, .bool false, .slice none 0 0]).alloc (.cells #[.string ⟨#[]⟩, .bool false, .slice none 0 0] 81)).drewN nq).far (p := ⟨w.heap.size + 1, 0, none⟩) (by simp) (.string ⟨key.toArray⟩); have hB1 : Blk ((((w.alloc (.cells #[.string ⟨#[]⟩, .bool false, .slice none 0 0] 81)).alloc (.cells #[.string ⟨#[]⟩, .bool false, .slice none 0 0] 81)).drewN nq).setCell ⟨w.heap.size + 1, 0, none⟩ (.string ⟨key.toArray⟩)) (w.heap.size + 1) 81 #[.string ⟨key.toArray⟩, .bool false, .slice none 0 0] := by { have hq := ((Blk.new (w.alloc (.cells #[.string ⟨#[]⟩, .bool false, .slice none 0 0] 81)) 81 #[.string ⟨#[]⟩, .bool false, .slice none 0 0]).drewN nq).set_ 0 (.string ⟨key.toArray⟩); simpa using hq }; have hbl1 := (Below.drewN (((Below.refl w.heap.size w).alloc (Nat.le_refl _) (.cells #[.string ⟨#[]⟩, .bool false, .slice none 0 0] 81)).alloc (by simp) (.cells #[.string ⟨#[]⟩, .bool false, .slice none 0 0] 81)) nq).setCell (p := ⟨w.heap.size + 1, 0, none⟩) (by simp) (.string ⟨key.toArray⟩); generalize ((((w.alloc (.cells #[.string ⟨#[]⟩, .bool false, .slice none 0 0] 81)).alloc (.cells #[.string ⟨#[]⟩, .bool false, .slice none 0 0] 81)).drewN nq).setCell ⟨w.heap.size + 1, 0, none⟩ (.string ⟨key.toArray⟩)) = W1 at *; clear hts; have hrb2 := (HB.out w HRB.out).2.below hbl1; refine (piece_ok _ _ _ _ _ hrb2 HP2.out).mono ?_; clear HP2; rintro e w' ⟨u1, u2, rfl, HB2, nq2, rfl⟩)
      | (go_at_call 47; refine (clone_calls _ _ _ ((HB2.out _ hrb2).1.drewN nq2)).mono ?_; rintro e w8 ⟨v8, rfl, hown8, hb8⟩; obtain ⟨A8, c8, hv8, hc8, hr8⟩ := Own.reads hown8; subst hv8; have hA8 := (hA1.drewN nq2).below hb8 (by have := hA1.lt; simpa using this); have hB8 := (hB1.drewN nq2).below hb8 (by have := hB1.lt; simpa using this); have hbl8 := Below.step (Below.drewN hbl1 nq2) (by have := hbl1.size; simpa using this) hb8; have e0 : w8.cell? ⟨w.heap.size + 1, 0, none⟩ = some (.string ⟨key.toArray⟩) := hB8.cell 0; have e1 : w8.cell? ⟨w.heap.size + 1, 1, none⟩ = some (.bool false) := hB8.cell 1; have e2 : w8.cell? ⟨w.heap.size + 1, 2, none⟩ = some (.slice none 0 0) := hB8.cell 2; have e3 := hB8.frozen 0; have e4 := hB8.frozen 1; have e5 := hB8.frozen 2; have e6 := hA8.frozen 0; have e7 := hA8.frozen 1; have e8 := hA8.frozen 2; have g0 : w8.cell? ⟨w.heap.size, 0, none⟩ = some (.string ⟨#[]⟩) := hA8.cell 0; have g1 : w8.cell? ⟨w.heap.size, 1, none⟩ = some (.bool false) := hA8.cell 1; have g2 : w8.cell? ⟨w.heap.size, 2, none⟩ = some (.slice none 0 0) := hA8.cell 2))
    have hA9 := hA8.far (p := ⟨w.heap.size + 1, 2, none⟩) (by simp) (.slice A8 (bs val).length c8)
    obtain ⟨f0, f1, f2⟩ := fin_cells hA9 rfl (.string ⟨key.toArray⟩) (.bool false) (.slice A8 (bs val).length c8)
    have hfb := fin_below (hbl8.setCell (p := ⟨w.heap.size + 1, 2, none⟩) (by simp) (.slice A8 (bs val).length c8)) (Nat.le_refl _) (.string ⟨key.toArray⟩) (.bool false) (.slice A8 (bs val).length c8)
    have hfc : Changed (fun k => k = w.heap.size ∨ k = w.heap.size + 1) w8 ((((w8.setCell ⟨w.heap.size + 1, 2, none⟩ (.slice A8 (bs val).length c8)).setCell ⟨w.heap.size, 0, none⟩ (.string ⟨key.toArray⟩)).setCell ⟨w.heap.size, 1, none⟩ (.bool false)).setCell ⟨w.heap.size, 2, none⟩ (.slice A8 (bs val).length c8)) := (((Changed.setCell (S := fun k => k = w.heap.size ∨ k = w.heap.size + 1) w8 ⟨w.heap.size + 1, 2, none⟩ _ (.inr rfl)).trans (Changed.setCell (S := fun k => k = w.heap.size ∨ k = w.heap.size + 1) _ ⟨w.heap.size, 0, none⟩ _ (.inl rfl)) (fun _ h => .inl h)).trans (Changed.setCell (S := fun k => k = w.heap.size ∨ k = w.heap.size + 1) _ ⟨w.heap.size, 1, none⟩ _ (.inl rfl)) (fun _ h => .inl h)).trans (Changed.setCell (S := fun k => k = w.heap.size ∨ k = w.heap.size + 1) _ ⟨w.heap.size, 2, none⟩ _ (.inl rfl)) (fun _ h => .inl h)
    have hnt : NoTy w8 (fun k => k = w.heap.size ∨ k = w.heap.size + 1) 5 := fun j hj ht => by
      rcases hj with rfl | rfl
      · exact absurd (hA8.ty.uniq ht) (by decide)
      · exact absurd (hB8.ty.uniq ht) (by decide)
    have hof := Own.low (OwnB.changed hown8 hfc hnt) (b := w.heap.size) (by have := hbl1.size; simpa using this)
    generalize ((((w8.setCell ⟨w.heap.size + 1, 2, none⟩ (.slice A8 (bs val).length c8)).setCell ⟨w.heap.size, 0, none⟩ (.string ⟨key.toArray⟩)).setCell ⟨w.heap.size, 1, none⟩ (.bool false)).setCell ⟨w.heap.size, 2, none⟩ (.slice A8 (bs val).length c8)) = wf at *
    exact bodyPost_ret (v := .tuple #[.agg #[.string ⟨key.toArray⟩, .bool false, .slice A8 (bs val).length c8], u2, .bool true]) (by simp [results, Try.results55, go_sem, f0, f1, f2]) rfl ⟨_, _, rfl, hof, Lib.hid (fun W hW => (HB2.out W (HB.out W (by have := hW.tail'; rwa [if_neg hc1] at this)).2).2), hfb⟩
set_option maxRecDepth 100000 in
set_option maxHeartbeats 2000000 in
theorem change_no3 (w : World) (v : Value) (k : UInt8) (r : List UInt8) (h : RB w v (k :: r)) (hk : k.toNat = 0) (key r1 : List UInt8) (hp : pieceB r = some (key, r1)) (hp2 : pieceB r1 = none) :
    Calls Try.prog 55 #[v] w fun e w' => ∃ c0 c1 A n cc rv, e = .returned (.tuple #[.agg #[.string c0, .bool c1, .slice A n cc], rv, .bool false]) ∧ Below w.heap.size w w' := by
  obtain ⟨ad, n, c, rfl, h0, hadb, hn1, hnc, hcm, hnm, hrb⟩ := h.tail
  unfold maxLen at hcm
  have h2 : ((n : Int) == 0) = false := by rw [beq_eq_false_iff_ne]; omega
  have h1 : ((k.toNat : Int) == 1) = false := by rw [beq_eq_false_iff_ne]; omega
  have h4 : (k.toNat : Int) ≤ 1 := by omega
  have HP := Lib.hid hp
  have HP2 := Lib.hid hp2
  clear hp hp2
  by_cases hc1 : c = 1
  · rw [if_pos hc1] at hrb
    subst hc1
    obtain rfl : n = 1 := by omega
    have HRB := Lib.hid hrb
    have HQ := Lib.hid ((hrb.alloc (.cells #[.string ⟨#[]⟩, .bool false, .slice none 0 0] 81)).alloc (.cells #[.string ⟨#[]⟩, .bool false, .slice none 0 0] 81))
    clear h hrb hk
    go_enter Try.func55, Try.ntmps55
    go_wp2_with (first
      | (go_at_call 72; refine (piece_ok _ _ _ _ _ HQ.out HP.out).mono ?_; rintro e w' ⟨v1, v2, rfl, HB, nq, rfl⟩; have hp1 := HP.out; clear HP; have hts := toStr_run (P := Try.prog) 41 9 5 Try.underlying41 Try.underlying5 Try.underlying9 ((HB.out _ HQ.out).1.drewN nq))
      | (go_at_call 72; have _t := HP2; have hA1 := (((Blk.new w 81 #[.string ⟨#[]⟩, .bool false, .slice none 0 0]).alloc (.cells #[.string ⟨#[]⟩, .bool false, .slice none 0 0] 81)).drewN nq).far (p := ⟨w.heap.size + 1, 0, none⟩) (by simp) (.string ⟨key.toArray⟩); have hB1 : Blk ((((w.alloc (.cells #[.string ⟨#[]⟩, .bool false, .slice none 0 0] 81)).alloc (.cells #[.string ⟨#[]⟩, .bool false, .slice none 0 0] 81)).drewN nq).setCell ⟨w.heap.size + 1, 0, none⟩ (.string ⟨key.toArray⟩)) (w.heap.size + 1) 81 #[.string ⟨key.toArray⟩, .bool false, .slice none 0 0] := by { have hq := ((Blk.new (w.alloc (.cells #[.string ⟨#[]⟩, .bool false, .slice none 0 0] 81)) 81 #[.string ⟨#[]⟩, .bool false, .slice none 0 0]).drewN nq).set_ 0 (.string ⟨key.toArray⟩); simpa using hq }; have hbl1 := (Below.drewN (((Below.refl w.heap.size w).alloc (Nat.le_refl _) (.cells #[.string ⟨#[]⟩, .bool false, .slice none 0 0] 81)).alloc (by simp) (.cells #[.string ⟨#[]⟩, .bool false, .slice none 0 0] 81)) nq).setCell (p := ⟨w.heap.size + 1, 0, none⟩) (by simp) (.string ⟨key.toArray⟩); generalize ((((w.alloc (.cells #[.string ⟨#[]⟩, .bool false, .slice none 0 0] 81)).alloc (.cells #[.string ⟨#[]⟩, .bool false, .slice none 0 0] 81)).drewN nq).setCell ⟨w.heap.size + 1, 0, none⟩ (.string ⟨key.toArray⟩)) = W1 at *; clear hts; have hrb2 := (HB.out w HRB.out).2.below hbl1; refine (piece_no _ _ _ hrb2 HP2.out).mono ?_; clear HP2; rintro e w' ⟨rfl, rfl⟩)
      | (go_at_call 47; refine (clone_calls _ _ _ (RB.nil _)).mono ?_; rintro e w8 ⟨v8, rfl, hown8, hb8⟩; obtain ⟨A8, c8, hv8, hc8, hr8⟩ := Own.reads hown8; subst hv8; have hA8 := hA1.below hb8 (by have := hA1.lt; simpa using this); have hB8 := hB1.below hb8 (by have := hB1.lt; simpa using this); have hbl8 := Below.step hbl1 hbl1.size hb8; have e0 : w8.cell? ⟨w.heap.size + 1, 0, none⟩ = some (.string ⟨key.toArray⟩) := hB8.cell 0; have e1 : w8.cell? ⟨w.heap.size + 1, 1, none⟩ = some (.bool false) := hB8.cell 1; have e2 : w8.cell? ⟨w.heap.size + 1, 2, none⟩ = some (.slice none 0 0) := hB8.cell 2; have e3 := hB8.frozen 0; have e4 := hB8.frozen 1; have e5 := hB8.frozen 2; have e6 := hA8.frozen 0; have e7 := hA8.frozen 1; have e8 := hA8.frozen 2; have g0 : w8.cell? ⟨w.heap.size, 0, none⟩ = some (.string ⟨#[]⟩) := hA8.cell 0; have g1 : w8.cell? ⟨w.heap.size, 1, none⟩ = some (.bool false) := hA8.cell 1; have g2 : w8.cell? ⟨w.heap.size, 2, none⟩ = some (.slice none 0 0) := hA8.cell 2))
    have hA9 := hA8.far (p := ⟨w.heap.size + 1, 2, none⟩) (by simp) (.slice A8 (bs []).length c8)
    obtain ⟨f0, f1, f2⟩ := fin_cells hA9 rfl (.string ⟨key.toArray⟩) (.bool false) (.slice A8 (bs []).length c8)
    have hfb := fin_below (hbl8.setCell (p := ⟨w.heap.size + 1, 2, none⟩) (by simp) (.slice A8 (bs []).length c8)) (Nat.le_refl _) (.string ⟨key.toArray⟩) (.bool false) (.slice A8 (bs []).length c8)
    have hfc : Changed (fun k => k = w.heap.size ∨ k = w.heap.size + 1) w8 ((((w8.setCell ⟨w.heap.size + 1, 2, none⟩ (.slice A8 (bs []).length c8)).setCell ⟨w.heap.size, 0, none⟩ (.string ⟨key.toArray⟩)).setCell ⟨w.heap.size, 1, none⟩ (.bool false)).setCell ⟨w.heap.size, 2, none⟩ (.slice A8 (bs []).length c8)) := (((Changed.setCell (S := fun k => k = w.heap.size ∨ k = w.heap.size + 1) w8 ⟨w.heap.size + 1, 2, none⟩ _ (.inr rfl)).trans (Changed.setCell (S := fun k => k = w.heap.size ∨ k = w.heap.size + 1) _ ⟨w.heap.size, 0, none⟩ _ (.inl rfl)) (fun _ h => .inl h)).trans (Changed.setCell (S := fun k => k = w.heap.size ∨ k = w.heap.size + 1) _ ⟨w.heap.size, 1, none⟩ _ (.inl rfl)) (fun _ h => .inl h)).trans (Changed.setCell (S := fun k => k = w.heap.size ∨ k = w.heap.size + 1) _ ⟨w.heap.size, 2, none⟩ _ (.inl rfl)) (fun _ h => .inl h)
    have hnt : NoTy w8 (fun k => k = w.heap.size ∨ k = w.heap.size + 1) 5 := fun j hj ht => by
      rcases hj with rfl | rfl
      · exact absurd (hA8.ty.uniq ht) (by decide)
      · exact absurd (hB8.ty.uniq ht) (by decide)
    have hof := Own.low (OwnB.changed hown8 hfc hnt) (b := w.heap.size) (by have := hbl1.size; simpa using this)
    generalize ((((w8.setCell ⟨w.heap.size + 1, 2, none⟩ (.slice A8 (bs []).length c8)).setCell ⟨w.heap.size, 0, none⟩ (.string ⟨key.toArray⟩)).setCell ⟨w.heap.size, 1, none⟩ (.bool false)).setCell ⟨w.heap.size, 2, none⟩ (.slice A8 (bs []).length c8)) = wf at *
    exact bodyPost_ret (v := .tuple #[.agg #[.string ⟨key.toArray⟩, .bool false, .slice A8 (bs []).length c8], .slice none 0 0, .bool false]) (by simp [results, Try.results55, go_sem, f0, f1, f2]) rfl ⟨_, _, _, _, _, _, rfl, hfb⟩
  · rw [if_neg hc1] at hrb
    have HRB := Lib.hid hrb
    have HQ := Lib.hid ((hrb.alloc (.cells #[.string ⟨#[]⟩, .bool false, .slice none 0 0] 81)).alloc (.cells #[.string ⟨#[]⟩, .bool false, .slice none 0 0] 81))
    clear h hrb hk
    go_enter Try.func55, Try.ntmps55
    go_wp2_with (first
      | (go_at_call 72; refine (piece_ok _ _ _ _ _ HQ.out HP.out).mono ?_; rintro e w' ⟨v1, v2, rfl, HB, nq, rfl⟩; have hp1 := HP.out; clear HP; have hts := toStr_run (P := Try.prog) 41 9 5 Try.underlying41 Try.underlying5 Try.underlying9 ((HB.out _ HQ.out).1.drewN nq))
      | (go_at_call 72; have _t := HP2; have hA1 := (((Blk.new w 81 #[.string ⟨#[]⟩, .bool false, .slice none 0 0]).alloc (.cells #[.string ⟨#[]⟩, .bool false, .slice none 0 0] 81)).drewN nq).far (p := ⟨w.heap.size + 1, 0, none⟩) (by simp) (.string ⟨key.toArray⟩); have hB1 : Blk ((((w.alloc (.cells #[.string ⟨#[]⟩, .bool false, .slice none 0 0] 81)).alloc (.cells #[.string ⟨#[]⟩, .bool false, .slice none 0 0] 81)).drewN nq).setCell ⟨w.heap.size + 1, 0, none⟩ (.string ⟨key.toArray⟩)) (w.heap.size + 1) 81 #[.string ⟨key.toArray⟩, .bool false, .slice none 0 0] := by { have hq := ((Blk.new (w.alloc (.cells #[.string ⟨#[]⟩, .bool false, .slice none 0 0] 81)) 81 #[.string ⟨#[]⟩, .bool false, .slice none 0 0]).drewN nq).set_ 0 (.string ⟨key.toArray⟩); simpa using hq }; have hbl1 := (Below.drewN (((Below.refl w.heap.size w).alloc (Nat.le_refl _) (.cells #[.string ⟨#[]⟩, .bool false, .slice none 0 0] 81)).alloc (by simp) (.cells #[.string ⟨#[]⟩, .bool false, .slice none 0 0] 81)) nq).setCell (p := ⟨w.heap.size + 1, 0, none⟩) (by simp) (.string ⟨key.toArray⟩); generalize ((((w.alloc (.cells #[.string ⟨#[]⟩, .bool false, .slice none 0 0] 81)).alloc (.cells #[.string ⟨#[]⟩, .bool false, .slice none 0 0] 81)).drewN nq).setCell ⟨w.heap.size + 1, 0, none⟩ (.string ⟨key.toArray⟩)) = W1 at *; clear hts; have hrb2 := (HB.out w HRB.out).2.below hbl1; refine (piece_no _ _ _ hrb2 HP2.out).mono ?_; clear HP2; rintro e w' ⟨rfl, rfl⟩)
      | (go_at_call 47; refine (clone_calls _ _ _ (RB.nil _)).mono ?_; rintro e w8 ⟨v8, rfl, hown8, hb8⟩; obtain ⟨A8, c8, hv8, hc8, hr8⟩ := Own.reads hown8; subst hv8; have hA8 := hA1.below hb8 (by have := hA1.lt; simpa using this); have hB8 := hB1.below hb8 (by have := hB1.lt; simpa using this); have hbl8 := Below.step hbl1 hbl1.size hb8; have e0 : w8.cell? ⟨w.heap.size + 1, 0, none⟩ = some (.string ⟨key.toArray⟩) := hB8.cell 0; have e1 : w8.cell? ⟨w.heap.size + 1, 1, none⟩ = some (.bool false) := hB8.cell 1; have e2 : w8.cell? ⟨w.heap.size + 1, 2, none⟩ = some (.slice none 0 0) := hB8.cell 2; have e3 := hB8.frozen 0; have e4 := hB8.frozen 1; have e5 := hB8.frozen 2; have e6 := hA8.frozen 0; have e7 := hA8.frozen 1; have e8 := hA8.frozen 2; have g0 : w8.cell? ⟨w.heap.size, 0, none⟩ = some (.string ⟨#[]⟩) := hA8.cell 0; have g1 : w8.cell? ⟨w.heap.size, 1, none⟩ = some (.bool false) := hA8.cell 1; have g2 : w8.cell? ⟨w.heap.size, 2, none⟩ = some (.slice none 0 0) := hA8.cell 2))
    have hA9 := hA8.far (p := ⟨w.heap.size + 1, 2, none⟩) (by simp) (.slice A8 (bs []).length c8)
    obtain ⟨f0, f1, f2⟩ := fin_cells hA9 rfl (.string ⟨key.toArray⟩) (.bool false) (.slice A8 (bs []).length c8)
    have hfb := fin_below (hbl8.setCell (p := ⟨w.heap.size + 1, 2, none⟩) (by simp) (.slice A8 (bs []).length c8)) (Nat.le_refl _) (.string ⟨key.toArray⟩) (.bool false) (.slice A8 (bs []).length c8)
    have hfc : Changed (fun k => k = w.heap.size ∨ k = w.heap.size + 1) w8 ((((w8.setCell ⟨w.heap.size + 1, 2, none⟩ (.slice A8 (bs []).length c8)).setCell ⟨w.heap.size, 0, none⟩ (.string ⟨key.toArray⟩)).setCell ⟨w.heap.size, 1, none⟩ (.bool false)).setCell ⟨w.heap.size, 2, none⟩ (.slice A8 (bs []).length c8)) := (((Changed.setCell (S := fun k => k = w.heap.size ∨ k = w.heap.size + 1) w8 ⟨w.heap.size + 1, 2, none⟩ _ (.inr rfl)).trans (Changed.setCell (S := fun k => k = w.heap.size ∨ k = w.heap.size + 1) _ ⟨w.heap.size, 0, none⟩ _ (.inl rfl)) (fun _ h => .inl h)).trans (Changed.setCell (S := fun k => k = w.heap.size ∨ k = w.heap.size + 1) _ ⟨w.heap.size, 1, none⟩ _ (.inl rfl)) (fun _ h => .inl h)).trans (Changed.setCell (S := fun k => k = w.heap.size ∨ k = w.heap.size + 1) _ ⟨w.heap.size, 2, none⟩ _ (.inl rfl)) (fun _ h => .inl h)
    have hnt : NoTy w8 (fun k => k = w.heap.size ∨ k = w.heap.size + 1) 5 := fun j hj ht => by
      rcases hj with rfl | rfl
      · exact absurd (hA8.ty.uniq ht) (by decide)
      · exact absurd (hB8.ty.uniq ht) (by decide)
    have hof := Own.low (OwnB.changed hown8 hfc hnt) (b := w.heap.size) (by have := hbl1.size; simpa using this)
    generalize ((((w8.setCell ⟨w.heap.size + 1, 2, none⟩ (.slice A8 (bs []).length c8)).setCell ⟨w.heap.size, 0, none⟩ (.string ⟨key.toArray⟩)).setCell ⟨w.heap.size, 1, none⟩ (.bool false)).setCell ⟨w.heap.size, 2, none⟩ (.slice A8 (bs []).length c8)) = wf at *
    exact bodyPost_ret (v := .tuple #[.agg #[.string ⟨key.toArray⟩, .bool false, .slice A8 (bs []).length c8], .slice none 0 0, .bool false]) (by simp [results, Try.results55, go_sem, f0, f1, f2]) rfl ⟨_, _, _, _, _, _, rfl, hfb⟩
end Go.Proofs.Ytmfjhejhbomlpaa
