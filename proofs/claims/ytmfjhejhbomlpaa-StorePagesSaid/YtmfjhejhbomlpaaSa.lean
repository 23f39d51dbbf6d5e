/- Changes in memory; the walk that checks them. -/
import Derived.Test.YtmfjhejhbomlpaaDj
import Derived.Test.YtmfjhejhbomlpaaVa
set_option linter.unusedVariables false
set_option linter.unusedSimpArgs false
namespace Go.Proofs.Ytmfjhejhbomlpaa
open Go.RowKit

structure Chg where
  key : ByteArray
  del : Bool
  val : List UInt8
/-- A change's cells: its value lies behind a slice. -/
def chc (x : Chg × Value) : List Value := [.string x.1.key, .bool x.1.del, x.2]
/-- Changes that can be read. -/
def CL (w : World) (v : Value) (xs : List (Chg × Value)) : Prop :=
  ∃ A c, v = .slice A xs.length c ∧ xs.length ≤ c ∧ c ≤ maxLen ∧ xs.length ≤ 1000000 ∧ Reads w w.heap.size 3 A xs.length (xs.flatMap chc) ∧ ∀ x ∈ xs, RB w x.2 x.1.val ∧ x.1.key.size ≤ 1000000
theorem chc_at (xs : List (Chg × Value)) (k : Nat) (hk : k < xs.length) (j : Nat) (hj : j < 3) : (xs.flatMap chc)[k * 3 + j]? = (chc xs[k])[j]? := by
  induction xs generalizing k with
  | nil => simp at hk
  | cons x xs ih =>
    rw [List.flatMap_cons]
    cases k with
    | zero => rw [Nat.zero_mul, Nat.zero_add, List.getElem?_append_left (by simpa [chc] using hj)]; rfl
    | succ k =>
      rw [List.getElem?_append_right (by simp [chc]; omega), show (k + 1) * 3 + j - (chc x).length = k * 3 + j by simp [chc]; omega]
      exact ih k (by simpa using hk)
def checkL : List Chg → List Chg → Nat
  | _, [] => 0
  | pre, c :: r => if namedB c.key.toList = false then 2 else if 4096 < c.val.length then 5 else if c.del && decide (0 < c.val.length) then 2 else if pre.any (fun p => p.key.toList == c.key.toList) then 10 else checkL (pre ++ [c]) r
def checkG (cs : List Chg) : Nat := if cs.length = 0 ∨ 16 < cs.length then 2 else checkL [] cs

set_option maxHeartbeats 1000000 in
theorem check_calls (w : World) (v : Value) (xs : List (Chg × Value)) (h : CL w v xs) :
    Calls Try.prog 56 #[v] w fun e w' => e = .returned (.int .i64 (checkG (xs.map Prod.fst) : Int)) ∧ Below w.heap.size w w' := by
  obtain ⟨A, c, rfl, hc, hm, hn, hr, hxs⟩ := h
  by_cases h0 : xs.length = 0
  · have hg : checkG (xs.map Prod.fst) = 2 := by unfold checkG; rw [if_pos (by left; simpa using h0)]
    have HG := Lib.hid hg
    clear hg
    go_enter Try.func56, Try.ntmps56
    go_wp2
    go_ret
    exact ⟨by rw [HG.out]; rfl, Below.refl _ _⟩
  have hb0 : ((xs.length : Int) == 0) = false := by rw [beq_eq_false_iff_ne]; omega
  by_cases h16 : 16 < xs.length
  · have hg : checkG (xs.map Prod.fst) = 2 := by unfold checkG; rw [if_pos (by right; simpa using h16)]
    have HG := Lib.hid hg
    clear hg
    go_enter Try.func56, Try.ntmps56
    go_wp2
    go_ret
    exact ⟨by rw [HG.out]; rfl, Below.refl _ _⟩
  have hg : checkG (xs.map Prod.fst) = checkL [] (xs.map Prod.fst) := by unfold checkG; rw [if_neg (by rw [List.length_map]; omega)]
  obtain ⟨Y, hY⟩ : ∃ Y, checkG (xs.map Prod.fst) = Y := ⟨_, rfl⟩
  rw [hY]
  rw [hg] at hY
  have HY := Lib.hid hY
  clear hY hg
  obtain ⟨ad, rfl, hadb, hcell⟩ := hr.2 (by omega)
  have HC := Lib.hid hcell
  clear hcell
  go_enter Try.func56, Try.ntmps56
  go_wp2
  go_loopw [17] (fun i wr => ∃ k : Nat, k ≤ xs.length ∧ i = .int .i64 (k : Int) ∧ Hid (checkL ((xs.map Prod.fst).take k) ((xs.map Prod.fst).drop k) = Y) ∧ Below w.heap.size w wr) (fun i _ => xs.length - (intOf i).toNat)
  case atStart => exact ⟨0, Nat.zero_le _, rfl, HY, Below.refl _ _⟩
  case round =>
    obtain ⟨k, hk, rfl, HW, hb⟩ := hrel
    by_cases hlt : k < xs.length
    · have a0 : wr.cell? (ad.add (k * 3)) = some (.string xs[k].1.key) := by
        rw [hb.cell (by rw [block_of_add]; exact hadb)]
        exact HC.out (k * 3) _ ((chc_at xs k hlt 0 (by omega)).trans rfl)
      have a1 : wr.cell? ⟨(ad.add (k * 3)).block, (ad.add (k * 3)).off + 1, none⟩ = some (.bool xs[k].1.del) := by
        rw [← addr_pos (ad.add (k * 3)) 1 (by omega), add_of_add, hb.cell (by rw [block_of_add]; exact hadb)]
        exact HC.out (k * 3 + 1) _ ((chc_at xs k hlt 1 (by omega)).trans rfl)
      have a2 : wr.cell? ⟨(ad.add (k * 3)).block, (ad.add (k * 3)).off + 2, none⟩ = some xs[k].2 := by
        rw [← addr_pos (ad.add (k * 3)) 2 (by omega), add_of_add, hb.cell (by rw [block_of_add]; exact hadb)]
        exact HC.out (k * 3 + 2) _ ((chc_at xs k hlt 2 (by omega)).trans rfl)
      obtain ⟨hrbx, hks⟩ := hxs xs[k] (List.getElem_mem hlt)
      obtain ⟨vA, vc, hve, hvc, hvn, hvm, hvr⟩ := hrbx
      rw [hve] at a2
      have hdr : (xs.map Prod.fst).drop k = xs[k].1 :: (xs.map Prod.fst).drop (k + 1) := by rw [List.drop_eq_getElem_cons (by simpa using hlt)]; simp
      have htk : (xs.map Prod.fst).take (k + 1) = (xs.map Prod.fst).take k ++ [xs[k].1] := by rw [List.take_succ_eq_append_getElem (by simpa using hlt)]; simp
      have hW := HW.out
      rw [hdr, checkL] at hW
      have HTK := Lib.hid htk
      clear hve hdr htk HW
      obtain ⟨x, hxk⟩ : ∃ x, xs[k].1 = x := ⟨_, rfl⟩
      rw [hxk] at a0 a1 a2 hks hvc hvn hvr hW HTK
      clear hxk
      obtain ⟨key, del, val⟩ := x
      simp only at a0 a1 a2 hks hvc hvn hvr hW
      cases hnm : namedB key.toList
      · rw [if_pos hnm] at hW
        have HWW := Lib.hid hW
        have HNM := Lib.hid hnm
        clear hW hnm
        go_wp2_with (go_at_call 73; refine (named_calls _ (by omega) _).mono ?_; rintro e w' ⟨rfl, rfl⟩; rw [HNM.out])
        go_ret
        exact ⟨by rw [← HWW.out]; rfl, hb.alloc hb.size _⟩
      rw [if_neg (by rw [hnm]; decide)] at hW
      have HNM := Lib.hid hnm
      clear hnm
      by_cases hbig : 4096 < val.length
      · rw [if_pos hbig] at hW
        have HWW := Lib.hid hW
        clear hW
        go_wp2_with (go_at_call 73; refine (named_calls _ (by omega) _).mono ?_; rintro e w' ⟨rfl, rfl⟩; rw [HNM.out])
        go_ret
        exact ⟨by rw [← HWW.out]; rfl, hb.alloc hb.size _⟩
      rw [if_neg hbig] at hW
      by_cases hdv : del = true ∧ 0 < val.length
      · obtain ⟨rfl, hv0⟩ := hdv
        rw [if_pos (by simpa using hv0)] at hW
        have HWW := Lib.hid hW
        clear hW
        go_wp2_with (go_at_call 73; refine (named_calls _ (by omega) _).mono ?_; rintro e w' ⟨rfl, rfl⟩; rw [HNM.out])
        go_ret
        exact ⟨by rw [← HWW.out]; rfl, hb.alloc hb.size _⟩
      have hdv2 : (del && decide (0 < val.length)) = false := by cases del <;> simp_all
      rw [if_neg (by rw [hdv2]; decide)] at hW
      cases del
      · clear hdv2
        have HWW := Lib.hid hW
        clear hW
        go_wp2_with (go_at_call 73; refine (named_calls _ (by omega) _).mono ?_; rintro e w' ⟨rfl, rfl⟩; rw [HNM.out])
        have hb1 := hb.alloc hb.size (.cells #[.string key, .bool false, .slice vA val.length vc] 81)
        have hk0 : (wr.alloc (.cells #[.string key, .bool false, .slice vA val.length vc] 81)).cell? ⟨wr.heap.size, 0, none⟩ = some (.string key) := (Blk.new wr 81 #[.string key, .bool false, .slice vA val.length vc]).cell 0
        have hN : wr.heap.size < (wr.alloc (.cells #[.string key, .bool false, .slice vA val.length vc] 81)).heap.size := by simp
        generalize wr.alloc (.cells #[.string key, .bool false, .slice vA val.length vc] 81) = w1 at *
        generalize wr.heap.size = N at *
        go_loopw [45] (fun i wq => ∃ j : Nat, j ≤ k ∧ i = .int .i64 (j : Int) ∧ Hid ((((xs.map Prod.fst).take k).take j).any (fun p => p.key.toList == key.toList) = false) ∧ Below w1.heap.size w1 wq) (fun i _ => k - (intOf i).toNat)
        case atStart => exact ⟨0, Nat.zero_le _, rfl, Lib.hid (by simp), Below.refl _ _⟩
        case round =>
          obtain ⟨j, hj, rfl, HA, hb2⟩ := hrel
          have hbw := hb1.trans (hb2.mono (Nat.le_of_lt_succ (Nat.lt_succ_of_le hb1.size)))
          have kq : wr.cell? ⟨N, 0, none⟩ = some (.string key) := (hb2.cell hN).trans hk0
          by_cases hjk : j < k
          · have hjx : j < xs.length := by omega
            have q0 : wr.cell? (ad.add (j * 3)) = some (.string xs[j].1.key) := by
              rw [hbw.cell (by rw [block_of_add]; exact hadb)]
              exact HC.out (j * 3) _ ((chc_at xs j hjx 0 (by omega)).trans rfl)
            have q1 : wr.cell? ⟨(ad.add (j * 3)).block, (ad.add (j * 3)).off + 1, none⟩ = some (.bool xs[j].1.del) := by
              rw [← addr_pos (ad.add (j * 3)) 1 (by omega), add_of_add, hbw.cell (by rw [block_of_add]; exact hadb)]
              exact HC.out (j * 3 + 1) _ ((chc_at xs j hjx 1 (by omega)).trans rfl)
            have q2 : wr.cell? ⟨(ad.add (j * 3)).block, (ad.add (j * 3)).off + 2, none⟩ = some xs[j].2 := by
              rw [← addr_pos (ad.add (j * 3)) 2 (by omega), add_of_add, hbw.cell (by rw [block_of_add]; exact hadb)]
              exact HC.out (j * 3 + 2) _ ((chc_at xs j hjx 2 (by omega)).trans rfl)
            obtain ⟨vA2, vc2, hve2, _⟩ := (hxs xs[j] (List.getElem_mem hjx)).1
            rw [hve2] at q2
            clear hve2
            have kq' : (wr.alloc (.cells #[.string xs[j].1.key, .bool xs[j].1.del, .slice vA2 xs[j].1.val.length vc2] 81)).cell? ⟨N, 0, none⟩ = some (.string key) := (World.cell?_alloc_lt _ _ _ (Nat.lt_of_lt_of_le hN hb2.size)).trans kq
            have hgj : ((xs.map Prod.fst).take k)[j]? = some xs[j].1 := by rw [List.getElem?_take, if_pos hjk, List.getElem?_map, List.getElem?_eq_getElem hjx]; rfl
            cases hkey : (xs[j].1.key.toList == key.toList)
            · have ha : (((xs.map Prod.fst).take k).take (j + 1)).any (fun p => p.key.toList == key.toList) = false := by
                rw [List.take_add_one, hgj, List.any_append, HA.out]
                simpa using hkey
              have HA2 := Lib.hid ha
              clear ha
              go_wp2
              go_roundw
              case rel => exact ⟨j + 1, by omega, by go_num, HA2, hb2.alloc hb2.size _⟩
              case measure => simp [intOf]; omega
            · have ha : ((xs.map Prod.fst).take k).any (fun p => p.key.toList == key.toList) = true := by
                rw [List.any_eq_true]
                exact ⟨_, List.mem_of_getElem? hgj, hkey⟩
              have hy := HWW.out
              rw [if_pos ha] at hy
              have HYY := Lib.hid hy
              clear ha hy
              go_wp2
              go_ret
              exact ⟨by rw [← HYY.out]; rfl, hbw.alloc hbw.size _⟩
          · obtain rfl : j = k := by omega
            have ha : ((xs.map Prod.fst).take j).any (fun p => p.key.toList == key.toList) = false := by
              have := HA.out
              rwa [List.take_of_length_le (by rw [List.length_take]; omega)] at this
            have hy := HWW.out
            rw [if_neg (by rw [ha]; decide)] at hy
            have HYY := Lib.hid hy
            clear ha hy
            go_wp2
            go_roundw
            case rel => exact ⟨j + 1, by omega, by go_num, by rw [HTK.out]; exact HYY, hbw⟩
            case measure => simp [intOf]; omega
      · have hv0 : val.length < 1 := by simpa using hdv2
        clear hdv2
        have HWW := Lib.hid hW
        clear hW
        go_wp2_with (go_at_call 73; refine (named_calls _ (by omega) _).mono ?_; rintro e w' ⟨rfl, rfl⟩; rw [HNM.out])
        have hb1 := hb.alloc hb.size (.cells #[.string key, .bool true, .slice vA val.length vc] 81)
        have hk0 : (wr.alloc (.cells #[.string key, .bool true, .slice vA val.length vc] 81)).cell? ⟨wr.heap.size, 0, none⟩ = some (.string key) := (Blk.new wr 81 #[.string key, .bool true, .slice vA val.length vc]).cell 0
        have hN : wr.heap.size < (wr.alloc (.cells #[.string key, .bool true, .slice vA val.length vc] 81)).heap.size := by simp
        generalize wr.alloc (.cells #[.string key, .bool true, .slice vA val.length vc] 81) = w1 at *
        generalize wr.heap.size = N at *
        go_loopw [45] (fun i wq => ∃ j : Nat, j ≤ k ∧ i = .int .i64 (j : Int) ∧ Hid ((((xs.map Prod.fst).take k).take j).any (fun p => p.key.toList == key.toList) = false) ∧ Below w1.heap.size w1 wq) (fun i _ => k - (intOf i).toNat)
        case atStart => exact ⟨0, Nat.zero_le _, rfl, Lib.hid (by simp), Below.refl _ _⟩
        case round =>
          obtain ⟨j, hj, rfl, HA, hb2⟩ := hrel
          have hbw := hb1.trans (hb2.mono (Nat.le_of_lt_succ (Nat.lt_succ_of_le hb1.size)))
          have kq : wr.cell? ⟨N, 0, none⟩ = some (.string key) := (hb2.cell hN).trans hk0
          by_cases hjk : j < k
          · have hjx : j < xs.length := by omega
            have q0 : wr.cell? (ad.add (j * 3)) = some (.string xs[j].1.key) := by
              rw [hbw.cell (by rw [block_of_add]; exact hadb)]
              exact HC.out (j * 3) _ ((chc_at xs j hjx 0 (by omega)).trans rfl)
            have q1 : wr.cell? ⟨(ad.add (j * 3)).block, (ad.add (j * 3)).off + 1, none⟩ = some (.bool xs[j].1.del) := by
              rw [← addr_pos (ad.add (j * 3)) 1 (by omega), add_of_add, hbw.cell (by rw [block_of_add]; exact hadb)]
              exact HC.out (j * 3 + 1) _ ((chc_at xs j hjx 1 (by omega)).trans rfl)
            have q2 : wr.cell? ⟨(ad.add (j * 3)).block, (ad.add (j * 3)).off + 2, none⟩ = some xs[j].2 := by
              rw [← addr_pos (ad.add (j * 3)) 2 (by omega), add_of_add, hbw.cell (by rw [block_of_add]; exact hadb)]
              exact HC.out (j * 3 + 2) _ ((chc_at xs j hjx 2 (by omega)).trans rfl)
            obtain ⟨vA2, vc2, hve2, _⟩ := (hxs xs[j] (List.getElem_mem hjx)).1
            rw [hve2] at q2
            clear hve2
            have kq' : (wr.alloc (.cells #[.string xs[j].1.key, .bool xs[j].1.del, .slice vA2 xs[j].1.val.length vc2] 81)).cell? ⟨N, 0, none⟩ = some (.string key) := (World.cell?_alloc_lt _ _ _ (Nat.lt_of_lt_of_le hN hb2.size)).trans kq
            have hgj : ((xs.map Prod.fst).take k)[j]? = some xs[j].1 := by rw [List.getElem?_take, if_pos hjk, List.getElem?_map, List.getElem?_eq_getElem hjx]; rfl
            cases hkey : (xs[j].1.key.toList == key.toList)
            · have ha : (((xs.map Prod.fst).take k).take (j + 1)).any (fun p => p.key.toList == key.toList) = false := by
                rw [List.take_add_one, hgj, List.any_append, HA.out]
                simpa using hkey
              have HA2 := Lib.hid ha
              clear ha
              go_wp2
              go_roundw
              case rel => exact ⟨j + 1, by omega, by go_num, HA2, hb2.alloc hb2.size _⟩
              case measure => simp [intOf]; omega
            · have ha : ((xs.map Prod.fst).take k).any (fun p => p.key.toList == key.toList) = true := by
                rw [List.any_eq_true]
                exact ⟨_, List.mem_of_getElem? hgj, hkey⟩
              have hy := HWW.out
              rw [if_pos ha] at hy
              have HYY := Lib.hid hy
              clear ha hy
              go_wp2
              go_ret
              exact ⟨by rw [← HYY.out]; rfl, hbw.alloc hbw.size _⟩
          · obtain rfl : j = k := by omega
            have ha : ((xs.map Prod.fst).take j).any (fun p => p.key.toList == key.toList) = false := by
              have := HA.out
              rwa [List.take_of_length_le (by rw [List.length_take]; omega)] at this
            have hy := HWW.out
            rw [if_neg (by rw [ha]; decide)] at hy
            have HYY := Lib.hid hy
            clear ha hy
            go_wp2
            go_roundw
            case rel => exact ⟨j + 1, by omega, by go_num, by rw [HTK.out]; exact HYY, hbw⟩
            case measure => simp [intOf]; omega
    · obtain rfl : k = xs.length := by omega
      have hW := HW.out
      rw [List.drop_of_length_le (by simp)] at hW
      have HWW := Lib.hid hW
      clear hW
      go_wp2
      go_ret
      exact ⟨by rw [← HWW.out]; rfl, hb⟩
end Go.Proofs.Ytmfjhejhbomlpaa
