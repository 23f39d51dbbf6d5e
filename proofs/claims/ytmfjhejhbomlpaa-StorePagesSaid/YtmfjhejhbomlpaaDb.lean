/- Walks of the log: noughts told, noughts written. -/
import Derived.Test.YtmfjhejhbomlpaaDa
set_option linter.unusedVariables false
set_option linter.unusedSimpArgs false
namespace Go.Proofs.Ytmfjhejhbomlpaa
open Go.RowKit

def zeroB (xs : List UInt8) : Bool := xs.all (· == 0)

set_option maxHeartbeats 400000 in
theorem blank_calls (v : Value) (xs : List UInt8) (w : World) (h : RB w v xs) :
    Calls Try.prog 50 #[v] w fun e w' => e = .returned (.bool (zeroB xs)) ∧ w = w' := by
  obtain ⟨A, c, rfl, hcc, hn, hm, hr⟩ := h
  unfold zeroB
  go_enter Try.func50, Try.ntmps50
  go_wp2
  go_loop [7] (fun i => ∃ k : Nat, k ≤ xs.length ∧ i = .int .i64 k ∧ (xs.take k).all (· == 0) = true) (fun i => xs.length - (intOf i).toNat)
  case atStart => exact ⟨0, Nat.zero_le _, rfl, by simp⟩
  case round =>
    obtain ⟨k, hk, rfl, hz⟩ := hrel
    have HZ := Lib.hid hz
    clear hz
    by_cases hlt : k < xs.length
    · obtain ⟨ad, rfl, hl, hc⟩ := hr.byte hlt
      by_cases h0 : xs[k] = 0
      · have h1 : ((xs[k].toNat : Int) != 0) = false := by simp [h0]
        have hs : (xs.take (k + 1)).all (· == 0) = true := by rw [List.take_succ_eq_append_getElem hl, List.all_append, HZ.out]; simp [h0]
        have HS := Lib.hid hs
        clear hs
        go_wp2
        go_round
        case rel => exact ⟨k + 1, by omega, by go_num, HS.out⟩
        case measure => simp [intOf]; omega
      · have h1 : ((xs[k].toNat : Int) != 0) = true := by
          rw [bne_iff_ne]
          intro h
          exact h0 (UInt8.toNat_inj.1 (by simpa using h))
        have hs : xs.all (· == 0) = false := by
          rw [List.all_eq_false]
          exact ⟨xs[k], List.getElem_mem _, by simpa using h0⟩
        have HS := Lib.hid hs
        clear hs
        go_wp2
        go_ret
        exact ⟨by rw [HS.out]; rfl, rfl⟩
    · have hs : xs.all (· == 0) = true := by
        have := HZ.out
        rwa [List.take_of_length_le (by omega)] at this
      have HS := Lib.hid hs
      clear hs
      go_wp2
      go_ret
      exact ⟨by rw [HS.out]; rfl, rfl⟩

theorem flat_cut (l : List (List UInt8)) (h : ∀ s ∈ l, s.length = 64) (k : Nat) (hk : k < l.length) : ((flat l).take (64 * (k + 1))).drop (64 * k) = l[k] := by
  induction l generalizing k with
  | nil => simp at hk
  | cons s l ih =>
    have hs := h s (by simp)
    have e1 : flat (s :: l) = s ++ flat l := by simp [flat]
    rw [e1]
    cases k with
    | zero =>
      rw [List.take_append_of_le_length (by omega), List.take_of_length_le (by omega)]
      rfl
    | succ k =>
      have := ih (fun x hx => h x (by simp [hx])) k (by simpa using hk)
      rw [show 64 * (k + 1 + 1) = s.length + 64 * (k + 1) by omega, show 64 * (k + 1) = s.length + 64 * k by omega, List.take_length_add_append, List.drop_length_add_append]
      rw [show s.length + 64 * k = 64 * (k + 1) by omega]
      exact this

/-- The wipe: sector by sector from the last down to 'from'; m sectors are still to be looked at. -/
def wipeG (now : List (List UInt8)) (from_ : Nat) : Nat → DM → Bool → DM × Nat
  | 0, D, s => if s then D.sync1 else (D, 0)
  | m + 1, D, s => if zeroB (now.getD (from_ + m) []) then wipeG now from_ m D s else if (D.write1 (from_ + m) []).2 = 0 then wipeG now from_ m (D.write1 (from_ + m) []).1 true else ((D.write1 (from_ + m) []).1, (D.write1 (from_ + m) []).2)
theorem DM.write1_length (D : DM) (k : Nat) (xs : List UInt8) : (D.write1 k xs).1.now.length = D.now.length := by
  unfold DM.write1
  split
  · rfl
  · split
    · simp [DM.stepped_now]
    · simp [DM.putW, DM.stepped_now]
theorem DM.write1_opn (D : DM) (k : Nat) (xs : List UInt8) : (D.write1 k xs).1.opn.length ≤ D.opn.length + 1 := by
  unfold DM.write1
  split
  · simp
  · split
    · simp [DM.stepped_opn]
    · simp [DM.putW, DM.stepped_opn]
theorem DM.write1_two (D : DM) (k : Nat) (xs : List UInt8) : (D.write1 k xs).2 = 0 ∨ (D.write1 k xs).2 = 14 := by
  unfold DM.write1
  split
  · exact .inr rfl
  · split
    · exact .inr rfl
    · exact .inl rfl
theorem DM.sync1_two (D : DM) : D.sync1.2 = 0 ∨ D.sync1.2 = 14 := by
  unfold DM.sync1
  split
  · exact .inr rfl
  · split
    · exact .inr rfl
    · exact .inl rfl

set_option maxHeartbeats 1000000 in
theorem wipe_calls {b : Nat} {D : DM} {F : Nat → Prop} (w : World) (h : DiskAt w b D F) (hop : D.opn.length ≤ 900000) (v : Value) (now : List (List UInt8)) (h64 : ∀ s ∈ now, s.length = 64) (hnl : now.length = D.now.length) (hv : RB w v (flat now)) (ha : Away v F) (from_ : Nat) (hf : from_ ≤ now.length) :
    Calls Try.prog 53 #[.pointer (some ⟨b, 0, none⟩), v, .int .i64 from_] w fun e w' => e = .returned (.int .i64 ((wipeG now from_ (now.length - from_) D false).2 : Int)) ∧ ∃ F', DiskAt w' b (wipeG now from_ (now.length - from_) D false).1 F' ∧ Sub w F F' ∧ Changed F w w' := by
  have hmx := h.ok.max
  have hps := h.ok.pos
  have hv0 := hv
  obtain ⟨A, c, rfl, hcc, hfn, hm, hr⟩ := hv
  have hflen : (flat now).length = now.length * 64 := flat_length now h64
  obtain ⟨n64, hn64⟩ : ∃ n64, (flat now).length = n64 := ⟨_, rfl⟩
  rw [hn64] at hcc hfn hr hv0 hflen ⊢
  unfold maxLen at hm
  have H64 := Lib.hid h64
  have HOP := Lib.hid hop
  obtain ⟨Y, hY⟩ : ∃ Y, wipeG now from_ (now.length - from_) D false = Y := ⟨_, rfl⟩
  rw [hY]
  have HY := Lib.hid hY
  have HN := Lib.hid hnl
  have HFL := Lib.hid hn64
  have hn4 : now.length ≤ 4096 := by omega
  have hn1 : 1 ≤ now.length := by omega
  clear h64 hop hY hn64
  go_enter Try.func53, Try.ntmps53
  go_wp2_with (go_at_call 48; refine (sectors_at _ h).mono ?_; rintro e w' ⟨rfl, rfl⟩; rw [← HN.out])
  go_loopw [8, 7] (fun i sv wr => ∃ (m : Nat) (s : Bool) (Dc : DM) (Fc : Nat → Prop), from_ + m ≤ now.length ∧ i = .int .i64 ((from_ : Int) + m - 1) ∧ sv = .bool s ∧ DiskAt wr b Dc Fc ∧ Sub w F Fc ∧ Changed F w wr ∧ Hid (wipeG now from_ m Dc s = Y ∧ Dc.now.length = now.length ∧ Dc.opn.length + m ≤ 900000 + now.length)) (fun i _ _ => (intOf i + 1).toNat)
  case atStart => exact ⟨now.length - from_, false, D, F, by omega, by congr 1; omega, rfl, h, Sub.refl _ _, Changed.refl _ _, Lib.hid ⟨HY.out, HN.out.symm, by have := HOP.out; omega⟩⟩
  case round =>
    obtain ⟨m, s, Dc, Fc, hm1, rfl, rfl, hd, hsb, hch, HW⟩ := hrel
    obtain ⟨ad, rfl, _⟩ := hr.2 (by omega)
    rcases m with _ | m
    · cases s
      · have hW := HW.1
        simp only [wipeG] at hW
        have HW2 := Lib.hid hW
        clear hW
        go_wp2
        go_ret
        exact ⟨by rw [← HW2.out]; rfl, Fc, by rw [← HW2.out]; exact hd, hsb, hch⟩
      · have hW := HW.1
        simp only [wipeG] at hW
        have HW2 := Lib.hid hW
        have hop : Dc.opn.length ≤ 1000000 := by have := HW.2.2; omega
        have HOPC := Lib.hid hop
        clear hW hop
        go_wp2_with (go_at_call 71; refine (sync_at _ hd HOPC.out).mono ?_; rintro e w1 ⟨rfl, F1, hd1, hs1, hc1⟩)
        go_ret
        exact ⟨by rw [← HW2.out]; rfl, F1, by rw [← HW2.out]; exact hd1, hsb.trans hs1 hch.size, hch.trans hc1 (fun k hk => hsb k hk)⟩
    · have hlt : from_ + m < now.length := by omega
      have hcut := RB.drop (k := 64 * (from_ + m)) (RB.take (k := 64 * (from_ + m + 1)) (hv0.frame hch ha) (by omega)) (by omega)
      rw [flat_cut _ H64.out _ hlt, if_neg (by omega)] at hcut
      simp only [Option.map_some] at hcut
      have hgd : now[from_ + m] = now.getD (from_ + m) [] := by rw [List.getD_eq_getElem?_getD, List.getElem?_eq_getElem hlt]; rfl
      rw [hgd] at hcut
      have e1 : (from_ : Int) + ((m + 1 : Nat) : Int) - 1 = ((from_ + m : Nat) : Int) := by omega
      rw [e1]
      have hW := HW.1
      rw [wipeG] at hW
      obtain ⟨k, hk⟩ : ∃ k, from_ + m = k := ⟨_, rfl⟩
      rw [hk] at hcut hlt hW ⊢
      have e2 : (k : Int) - 1 = (from_ : Int) + (m : Int) - 1 := by omega
      have hkD : k < Dc.now.length := by rw [HW.2.1]; exact hlt
      cases hb : zeroB (now.getD k [])
      · have HB := Lib.hid hb
        rw [hb, if_neg (by decide)] at hW
        have HWW := Lib.hid hW
        have HKD := Lib.hid hkD
        clear hW hb hgd hkD
        rcases DM.write1_two Dc k [] with hwr | hwr
        · have HWR := Lib.hid hwr
          clear hwr
          go_wp2_with (first
            | (go_at_call 50; ((with_reducible refine (blank_calls _ _ _ hcut).mono ?_); rintro e w' ⟨rfl, rfl⟩; rw [HB.out]))
            | (go_at_call 70; refine (write_at _ hd k HKD.out (by have := HW.2.2; omega) (.slice none 0 0) [] (RB.nil _) (fun _ h => by cases h) (by simp)).mono ?_; rintro e w1 ⟨rfl, F1, hd1, hs1, hc1⟩; rw [HWR.out]))
          go_roundw
          case rel => exact ⟨m, true, _, F1, by omega, by rw [← e2], rfl, hd1, hsb.trans hs1 hch.size, hch.trans hc1 (fun k hk => hsb k hk), Lib.hid ⟨by rw [← HWW.out, HWR.out]; rfl, by rw [DM.write1_length]; exact HW.2.1, by have := DM.write1_opn Dc k []; have := HW.2.2; omega⟩⟩
          case measure => simp [intOf]; omega
        · have HWR := Lib.hid hwr
          clear hwr
          go_wp2_with (first
            | (go_at_call 50; ((with_reducible refine (blank_calls _ _ _ hcut).mono ?_); rintro e w' ⟨rfl, rfl⟩; rw [HB.out]))
            | (go_at_call 70; refine (write_at _ hd k HKD.out (by have := HW.2.2; omega) (.slice none 0 0) [] (RB.nil _) (fun _ h => by cases h) (by simp)).mono ?_; rintro e w1 ⟨rfl, F1, hd1, hs1, hc1⟩; rw [HWR.out]))
          go_ret
          exact ⟨by rw [← HWW.out, HWR.out]; rfl, F1, by rw [← HWW.out, HWR.out]; exact hd1, hsb.trans hs1 hch.size, hch.trans hc1 (fun k hk => hsb k hk)⟩
      · have HB := Lib.hid hb
        rw [hb, if_pos rfl] at hW
        have HWW := Lib.hid hW
        clear hW hb hgd
        go_wp2_with (go_at_call 50; ((with_reducible refine (blank_calls _ _ _ hcut).mono ?_); rintro e w' ⟨rfl, rfl⟩; rw [HB.out]))
        go_roundw
        case rel => exact ⟨m, s, Dc, Fc, by omega, by rw [← e2], rfl, hd, hsb, hch, Lib.hid ⟨HWW.out, HW.2.1, by have := HW.2.2; omega⟩⟩
        case measure => simp [intOf]; omega
end Go.Proofs.Ytmfjhejhbomlpaa
