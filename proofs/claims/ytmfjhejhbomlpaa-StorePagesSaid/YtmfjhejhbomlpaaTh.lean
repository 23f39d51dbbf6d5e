/- Walks of the reference's words: bytes alike, pairs alike, bytes used, a front. Walks of the reference's words: pairs alike, bytes used, a key looked for. Walks of the reference's words: bytes used, a change put into a list. -/
import Derived.Test.YtmfjhejhbomlpaaTe
import Derived.Test.YtmfjhejhbomlpaaSn
set_option linter.unusedVariables false
set_option linter.unusedSimpArgs false
namespace Go.Proofs.Ytmfjhejhbomlpaa
open Go.RowKit Go.Shelf

theorem same_calls (w : World) (va vb : Value) (a b : List UInt8) (ha : RB w va a) (hb : RB w vb b) :
    Calls Try.prog 28 #[va, vb] w fun e w' => e = .returned (.bool (a == b)) ∧ ∃ n, w' = w.drewN n := by
  obtain ⟨A, c, rfl, hc, hn, hm, hr⟩ := ha
  obtain ⟨A', c', rfl, hc', hn', hm', hr'⟩ := hb
  by_cases hl : a.length = b.length
  · rw [← hl] at hc' hn' hr' ⊢
    have HL := Lib.hid hl
    clear hl
    go_enter Try.func28, Try.ntmps28
    go_wp2
    go_loopw [5] (fun i wr => ∃ k : Nat, k ≤ a.length ∧ i = .int .i64 (k : Int) ∧ Hid (a.take k = b.take k) ∧ ∃ n, wr = w.drewN n) (fun i _ => a.length - (intOf i).toNat)
    case atStart => exact ⟨0, Nat.zero_le _, rfl, Lib.hid (by simp), 0, rfl⟩
    case round =>
      obtain ⟨k, hk, rfl, HK, nr, hwr⟩ := hrel
      have hr : Reads wr w.heap.size 1 A a.length (bs a) := by rw [hwr]; exact Reads.drewN hr nr
      have hr' : Reads wr w.heap.size 1 A' a.length (bs b) := by rw [hwr]; exact Reads.drewN hr' nr
      have HWR := Lib.hid hwr
      clear hwr
      by_cases hlt : k < a.length
      · obtain ⟨ad, rfl, hl1, hcell⟩ := hr.byte hlt
        obtain ⟨ad', rfl, hl2, hcell'⟩ := hr'.byte hlt
        have ht1 : a.take (k + 1) = a.take k ++ [a[k]] := List.take_succ_eq_append_getElem hl1
        have ht2 : b.take (k + 1) = b.take k ++ [b[k]] := List.take_succ_eq_append_getElem hl2
        by_cases he : a[k] = b[k]
        · have HT : Hid (a.take (k + 1) = b.take (k + 1)) := Lib.hid (by rw [ht1, ht2, HK.out, he])
          clear ht1 ht2
          rw [← he] at hcell'
          clear he
          go_wp2
          go_quiet (fail)
          go_wp2
          go_roundw
          case rel => exact ⟨k + 1, by omega, by go_num, HT, _, by rw [HWR.out, World.drewN_drewN]⟩
          case measure => simp [intOf]; omega
        · have hne : ((a[k].toNat : Int) != (b[k].toNat : Int)) = true := by
            rw [bne_iff_ne]
            intro e
            exact he (UInt8.toNat_inj.1 (by omega))
          have HF : Hid ((a == b) = false) := Lib.hid (by
            rw [beq_eq_false_iff_ne]
            rintro rfl
            exact he rfl)
          generalize a[k] = x1 at *
          generalize b[k] = x2 at *
          clear ht1 ht2
          go_wp2
          go_quiet (fail)
          go_wp2
          go_ret
          exact ⟨by rw [HF.out]; rfl, _, by rw [HWR.out, World.drewN_drewN]⟩
      · obtain rfl : k = a.length := by omega
        have HT : Hid ((a == b) = true) := Lib.hid (by
          have := HK.out
          rw [List.take_length, HL.out, List.take_length] at this
          rw [this]; simp)
        go_wp2
        go_ret
        exact ⟨by rw [HT.out]; rfl, _, HWR.out⟩
  · have hl0 : ((a.length : Int) != (b.length : Int)) = true := by rw [bne_iff_ne]; omega
    have HF : Hid ((a == b) = false) := Lib.hid (by
      rw [beq_eq_false_iff_ne]
      rintro rfl
      exact hl rfl)
    go_enter Try.func28, Try.ntmps28
    go_wp2
    go_ret
    exact ⟨by rw [HF.out]; rfl, 0, rfl⟩

theorem begins_calls (w : World) (s front : ByteArray) (hs : s.size ≤ 1000000000) (hf : front.size ≤ 1000000000) :
    Calls Try.prog 16 #[.string s, .string front] w fun e w' => e = .returned (.bool (Lib.hasPrefix s.data.toList front.data.toList)) ∧ w = w' := by
  have hp : Lib.hasPrefix s.data.toList front.data.toList = (decide (front.size ≤ s.size) && ((s.extract 0 front.size).toList == front.toList)) := by
    unfold Lib.hasPrefix
    rw [ByteArray.toList_eq, ByteArray.toList_eq, ByteArray.data_extract, Array.toList_extract]
    by_cases hle : front.size ≤ s.size
    · rw [decide_eq_true hle, Bool.true_and]
      show _ = (List.extract s.data.toList 0 front.size == front.data.toList)
      rw [List.extract_eq_take_drop]
      rw [Bool.eq_iff_iff, List.isPrefixOf_iff_prefix, List.prefix_iff_eq_take, beq_iff_eq]
      simp [eq_comm]
    · rw [decide_eq_false hle, Bool.false_and]
      cases h : front.data.toList.isPrefixOf s.data.toList with
      | false => rfl
      | true =>
        have := (List.isPrefixOf_iff_prefix.1 h).length_le
        exact absurd (by simpa using this) hle
  have HP := Lib.hid hp
  clear hp
  by_cases hle : front.size ≤ s.size
  · go_enter Try.func16, Try.ntmps16
    go_wp2
    go_ret
    exact ⟨by rw [HP.out, decide_eq_true hle]; rfl, rfl⟩
  · go_enter Try.func16, Try.ntmps16
    go_wp2
    go_ret
    exact ⟨by rw [HP.out, decide_eq_false hle]; rfl, rfl⟩
end Go.Proofs.Ytmfjhejhbomlpaa
set_option linter.unusedVariables false
set_option linter.unusedSimpArgs false
namespace Go.Proofs.Ytmfjhejhbomlpaa
open Go.RowKit Go.Shelf

/-- What stands at place k of a row of pairs. -/
theorem PRx.at_ {w : World} {A : Option Addr} {n c : Nat} {xs : List It} (h : PRx w (.slice A n c) xs) {k : Nat} (hk : k < xs.length) :
    ∃ ad vA vc, A = some ad ∧ ad.block < w.heap.size ∧ w.cell? (ad.add (k * 2)) = some (.string xs[k].key) ∧ w.cell? ⟨(ad.add (k * 2)).block, (ad.add (k * 2)).off + 1, none⟩ = some (.slice vA xs[k].val.length vc) ∧ RB w (.slice vA xs[k].val.length vc) xs[k].val ∧ xs[k].v = .slice vA xs[k].val.length vc ∧ xs[k].key.size ≤ 1000000000 := by
  obtain ⟨A', c', e', hc', hmx', hnx', hr, hxs⟩ := h
  injection e' with e1 e2 e3
  subst e1 e3
  obtain ⟨ad, rfl, hadb, hcell⟩ := hr.2 (by omega)
  have hmem := List.getElem_mem hk
  obtain ⟨hrb, hks⟩ := hxs xs[k] hmem
  obtain ⟨vA, vc, hve, _⟩ := id hrb
  have hone : one (xs[k].v) = xs[k].v := one_self (by rw [hve]; rfl)
  refine ⟨ad, vA, vc, rfl, hadb, hcell (k * 2) _ ((it_at xs k hk 0 (by omega)).trans rfl), ?_, by rw [← hve]; exact hrb, hve, hks⟩
  rw [← addr_pos (ad.add (k * 2)) 1 (by omega), add_of_add]
  exact hcell (k * 2 + 1) _ ((it_at xs k hk 1 (by omega)).trans (by show some (one xs[k].v) = _; rw [hone, hve]))
theorem It.pr_eq {x y : It} : It.pr x = It.pr y ↔ x.key = y.key ∧ x.val = y.val := by simp [It.pr]

set_option maxHeartbeats 4000000 in
theorem sameP_calls (w : World) (va vb : Value) (xs ys : List It) (ha : PRx w va xs) (hb : PRx w vb ys) :
    Calls Try.prog 17 #[va, vb] w fun e w' => e = .returned (.bool (decide (xs.map It.pr = ys.map It.pr))) ∧ ∃ n, w' = w.drewN n := by
  obtain ⟨A, c, rfl, hc, hm, hn, _⟩ := id ha
  obtain ⟨A', c', rfl, hc', hm', hn', _⟩ := id hb
  by_cases hl : xs.length = ys.length
  · rw [← hl] at hc' hn' hb ⊢
    have HL := Lib.hid hl
    clear hl
    go_enter Try.func17, Try.ntmps17
    go_wp2
    go_loopw [5] (fun i wr => ∃ k : Nat, k ≤ xs.length ∧ i = .int .i64 (k : Int) ∧ Hid ((xs.take k).map It.pr = (ys.take k).map It.pr) ∧ ∃ n, wr = w.drewN n) (fun i _ => xs.length - (intOf i).toNat)
    case atStart => exact ⟨0, Nat.zero_le _, rfl, Lib.hid (by simp), 0, rfl⟩
    case round =>
      obtain ⟨k, hk, rfl, HK, nr, hwr⟩ := hrel
      by_cases hlt : k < xs.length
      · have ha' : PRx wr (.slice A xs.length c) xs := by rw [hwr]; exact ha.drewN nr
        have hb' : PRx wr (.slice A' xs.length c') ys := by rw [hwr]; exact hb.drewN nr
        have hlt2 : k < ys.length := by have := HL.out; omega
        obtain ⟨ad, vA, vc, rfl, _, a0, a1, ra, _, ka⟩ := ha'.at_ hlt
        obtain ⟨ad', vA', vc', rfl, _, b0, b1, rb, _, kb⟩ := hb'.at_ hlt2
        have ht1 : (xs.take (k + 1)).map It.pr = (xs.take k).map It.pr ++ [It.pr xs[k]] := by rw [List.take_succ_eq_append_getElem hlt, List.map_append]; rfl
        have ht2 : (ys.take (k + 1)).map It.pr = (ys.take k).map It.pr ++ [It.pr ys[k]] := by rw [List.take_succ_eq_append_getElem hlt2, List.map_append]; rfl
        have HNE : Hid (It.pr xs[k] ≠ It.pr ys[k] → xs.map It.pr ≠ ys.map It.pr) := Lib.hid fun hne e => hne (by
          have e1 : (xs.map It.pr)[k]? = (ys.map It.pr)[k]? := by rw [e]
          rw [List.getElem?_map, List.getElem?_map, List.getElem?_eq_getElem hlt, List.getElem?_eq_getElem hlt2] at e1
          simpa using e1)
        have HT : Hid (It.pr xs[k] = It.pr ys[k] → (xs.take (k + 1)).map It.pr = (ys.take (k + 1)).map It.pr) := Lib.hid fun e => by rw [ht1, ht2, HK.out, e]
        have HWR := Lib.hid hwr
        clear hwr ht1 ht2 ha' hb'
        generalize xs[k] = x at *
        generalize ys[k] = y at *
        obtain ⟨key, v0, val⟩ := x
        obtain ⟨key', v1, val'⟩ := y
        simp only at a0 a1 ra ka b0 b1 rb kb
        have hsame : ∀ W n, W = wr.drewN n → Calls Try.prog 28 #[.slice vA val.length vc, .slice vA' val'.length vc'] W fun e w' => e = .returned (.bool (val == val')) ∧ ∃ n, w' = wr.drewN n := by
          rintro W n rfl
          refine (same_calls (wr.drewN n) _ _ val val' (ra.drewN n) (rb.drewN n)).mono ?_
          rintro e w' ⟨rfl, m, rfl⟩
          exact ⟨rfl, _, by rw [World.drewN_drewN]⟩
        have HSA := Lib.hid hsame
        clear hsame ra rb
        cases hkey : (key.toList == key'.toList)
        · have hne : Hid (decide (xs.map It.pr = ys.map It.pr) = false) := Lib.hid (decide_eq_false (HNE.out (fun e => (ba_ne.1 hkey) (It.pr_eq.1 e).1)))
          go_wp2
          go_quiet (fail)
          go_wp2
          go_ret
          exact ⟨by rw [hne.out]; rfl, _, by rw [HWR.out, World.drewN_drewN]⟩
        · have hke := ba_eq.1 hkey
          cases hval : (val == val')
          · have hne : Hid (decide (xs.map It.pr = ys.map It.pr) = false) := Lib.hid (decide_eq_false (HNE.out (fun e => by
              have := (It.pr_eq.1 e).2
              simp only at this
              rw [this] at hval
              simp at hval)))
            rw [hval] at HSA
            clear hval hke
            go_wp2
            go_quiet ((go_at_call 28; exact HSA.out _ _ rfl))
            go_wp2
            go_ret
            exact ⟨by rw [hne.out]; rfl, _, by rw [HWR.out, World.drewN_drewN]⟩
          · have HT2 : Hid ((xs.take (k + 1)).map It.pr = (ys.take (k + 1)).map It.pr) := Lib.hid (HT.out (It.pr_eq.2 ⟨hke, by simpa using hval⟩))
            rw [hval] at HSA
            clear hval hke
            go_wp2
            go_quiet ((go_at_call 28; exact HSA.out _ _ rfl))
            go_wp2
            go_roundw
            case rel => exact ⟨k + 1, by omega, by go_num, HT2, _, by rw [HWR.out, World.drewN_drewN]⟩
            case measure => simp [intOf]; omega
      · obtain rfl : k = xs.length := by omega
        have HWR := Lib.hid hwr
        have HT : Hid (decide (xs.map It.pr = ys.map It.pr) = true) := Lib.hid (decide_eq_true (by
          have := HK.out
          rw [List.take_length, HL.out, List.take_length] at this
          exact this))
        clear hwr
        go_wp2
        go_ret
        exact ⟨by rw [HT.out]; rfl, _, HWR.out⟩
  · have hl0 : ((xs.length : Int) != (ys.length : Int)) = true := by rw [bne_iff_ne]; omega
    have HF : Hid (decide (xs.map It.pr = ys.map It.pr) = false) := Lib.hid (decide_eq_false (fun e => hl (by
      have := congrArg List.length e
      simpa using this)))
    go_enter Try.func17, Try.ntmps17
    go_wp2
    go_ret
    exact ⟨by rw [HF.out]; rfl, 0, rfl⟩
end Go.Proofs.Ytmfjhejhbomlpaa
set_option linter.unusedVariables false
set_option linter.unusedSimpArgs false
namespace Go.Proofs.Ytmfjhejhbomlpaa
open Go.RowKit Go.Shelf

theorem bytesL_take (xs : List It) (k : Nat) (hk : k < xs.length) : bytesL ((xs.take (k + 1)).map It.pr) = bytesL ((xs.take k).map It.pr) + (xs[k].key.size + xs[k].val.length) := by
  rw [List.take_succ_eq_append_getElem hk, List.map_append, bytesL_append]
  simp [bytesL, It.pr]
theorem bytesL_take_le (xs : List It) (k : Nat) : bytesL ((xs.take k).map It.pr) ≤ bytesL (xs.map It.pr) := by
  have := bytesL_append ((xs.take k).map It.pr) ((xs.drop k).map It.pr)
  rw [← List.map_append, List.take_append_drop] at this
  omega

theorem bytesP_calls (w : World) (v : Value) (xs : List It) (h : PRx w v xs) (hb : bytesL (xs.map It.pr) ≤ 1000000000000) :
    Calls Try.prog 24 #[v] w fun e w' => e = .returned (.int .i64 (bytesL (xs.map It.pr) : Int)) ∧ ∃ n, w' = w.drewN n := by
  obtain ⟨A, c, rfl, hc, hm, hn, _⟩ := id h
  obtain ⟨Y, hY⟩ : ∃ Y, bytesL (xs.map It.pr) = Y := ⟨_, rfl⟩
  have HB : Hid (∀ k, k < xs.length → bytesL ((xs.take (k + 1)).map It.pr) = bytesL ((xs.take k).map It.pr) + (xs[k]!.key.size + xs[k]!.val.length) ∧ bytesL ((xs.take (k + 1)).map It.pr) ≤ 1000000000000) := Lib.hid fun k hk => by
    have h1 := bytesL_take xs k hk
    have h2 := bytesL_take_le xs (k + 1)
    rw [getElem!_pos xs k hk]
    exact ⟨h1, by omega⟩
  have HYY := Lib.hid hY
  rw [hY]
  clear hY hb
  go_enter Try.func24, Try.ntmps24
  go_wp2
  go_loopw [4, 3] (fun i y wr => ∃ (k q : Nat), k ≤ xs.length ∧ i = .int .i64 (k : Int) ∧ y = .int .i64 (q : Int) ∧ Hid (q = bytesL ((xs.take k).map It.pr)) ∧ ∃ n, wr = w.drewN n) (fun i _ _ => xs.length - (intOf i).toNat)
  case atStart => exact ⟨0, 0, Nat.zero_le _, rfl, rfl, Lib.hid rfl, 0, rfl⟩
  case round =>
    obtain ⟨k, q, hk, rfl, rfl, HQ, nr, hwr⟩ := hrel
    by_cases hlt : k < xs.length
    · have h' : PRx wr (.slice A xs.length c) xs := by rw [hwr]; exact h.drewN nr
      obtain ⟨ad, vA, vc, rfl, _, a0, a1, ra, _, ka⟩ := h'.at_ hlt
      obtain ⟨hs, hle⟩ := HB.out k hlt
      rw [getElem!_pos xs k hlt, ← HQ.out] at hs
      rw [hs] at hle
      have HS := Lib.hid hs
      have HWR := Lib.hid hwr
      clear hs hwr h' ra
      generalize xs[k] = x at *
      have e1 : IntKind.i64.wrap ((q : Int) + (x.key.size : Int)) = ((q + x.key.size : Nat) : Int) := by rw [IntWalk.i64_in _ (by omega)]; omega
      have e2 : IntKind.i64.wrap (((q + x.key.size : Nat) : Int) + (x.val.length : Int)) = ((q + x.key.size + x.val.length : Nat) : Int) := by rw [IntWalk.i64_in _ (by omega)]; omega
      go_wp2
      go_quiet (fail)
      go_wp2
      go_roundw
      case rel => exact ⟨k + 1, q + x.key.size + x.val.length, by omega, by go_num, rfl, Lib.hid (by rw [HS.out]; omega), _, by rw [HWR.out, World.drewN_drewN]⟩
      case measure => simp [intOf]; omega
    · obtain rfl : k = xs.length := by omega
      have HWR := Lib.hid hwr
      have hq : q = Y := by rw [HQ.out, List.take_length, HYY.out]
      subst hq
      clear hwr
      go_wp2
      go_ret
      exact ⟨rfl, _, HWR.out⟩

/-- A change put into a list, as the reference does it. -/
def putGo (c : Chg) : Bool → List Pr → List Pr
  | done, [] => if done then [] else [(c.key, c.val)]
  | done, p :: r => (if !done && ltK c.key p.1 then [(c.key, c.val)] else []) ++ ((if (p.1.toList == c.key.toList) then [] else [p]) ++ putGo c (done || ltK c.key p.1) r)
def putL (c : Chg) (L : List Pr) : List Pr := putGo c c.del L
theorem putGo_done (c : Chg) : ∀ L : List Pr, (∀ p ∈ L, p.1 ≠ c.key) → putGo c true L = L
  | [], _ => rfl
  | p :: r, h => by
    have h1 := putGo_done c r fun q hq => h q (by simp [hq])
    have h2 : (p.1.toList == c.key.toList) = false := ba_ne.2 (h p (by simp))
    rw [putGo, h2, Bool.true_or, h1]
    rfl
theorem putGo_ahead {c : Chg} {L : List Pr} (h : ∀ p ∈ L, ltK c.key p.1 = true) : putGo c false L = (c.key, c.val) :: L := by
  cases L with
  | nil => rfl
  | cons p r =>
    have h1 := h p (by simp)
    have h2 : (p.1.toList == c.key.toList) = false := ba_ne.2 (Ne.symm (ltK_ne h1))
    rw [putGo, h2, h1, Bool.or_true, putGo_done c r fun q hq => Ne.symm (ltK_ne (h q (by simp [hq])))]
    rfl
theorem putL_ins (c : Chg) : ∀ L : List Pr, SortedL L → putL c L = ins c L
  | [], _ => by
    unfold putL ins newL putGo
    rfl
  | p :: r, h => by
    have ih := putL_ins c r (sorted_cons.1 h).2
    have hr := (sorted_cons.1 h).1
    unfold putL at ih ⊢
    rw [putGo, ins]
    cases h1 : ltK p.1 c.key with
    | true =>
      have h2 := ltK_asymm h1
      have h3 : (p.1.toList == c.key.toList) = false := ba_ne.2 (ltK_ne h1)
      rw [h2, h3, Bool.or_false, ih, Bool.and_false]
      rfl
    | false =>
      conv => rhs; rw [if_neg (by decide)]
      by_cases h4 : p.1 = c.key
      · have h3 : (p.1.toList == c.key.toList) = true := ba_eq.2 h4
        have h5 : ltK c.key p.1 = false := by rw [h4]; exact ltK_irrefl _
        have h6 : ∀ q ∈ r, ltK c.key q.1 = true := fun q hq => by rw [← h4]; exact hr q hq
        rw [if_pos h4, h3, h5, Bool.or_false, Bool.and_false]
        unfold newL
        cases hd : c.del with
        | true => rw [putGo_done c r fun q hq => Ne.symm (ltK_ne (h6 q hq))]; rfl
        | false => rw [putGo_ahead h6]; rfl
      · have h5 : ltK c.key p.1 = true := by
          cases h5 : ltK c.key p.1 with
          | true => rfl
          | false => exact absurd (ltK_total h1 h5) h4
        have h3 : (p.1.toList == c.key.toList) = false := ba_ne.2 h4
        rw [if_neg h4, h3, h5, Bool.or_true, putGo_done c r fun q hq => Ne.symm (ltK_ne (ltK_trans h5 (hr q hq)))]
        unfold newL
        cases c.del <;> rfl
theorem doneL_put (cs : List Chg) : ∀ L : List Pr, SortedL L → cs.foldl (fun l c => putL c l) L = doneL L cs := by
  induction cs with
  | nil => intro L _; rfl
  | cons c r ih =>
    intro L h
    unfold doneL
    rw [List.foldl_cons, List.foldl_cons, putL_ins c L h]
    exact ih _ (sorted_ins c L h)
end Go.Proofs.Ytmfjhejhbomlpaa
