/- Walks of numbers as bytes. -/
import Derived.Test.YtmfjhejhbomlpaaWa
import Derived.Test.YtmfjhejhbomlpaaReg
set_option linter.unusedVariables false
set_option linter.unusedSimpArgs false
namespace Go.Proofs.Ytmfjhejhbomlpaa
open Go.RowKit

/-- A short number's bytes. -/
def varB (x : Nat) : List UInt8 := if x < 128 then [UInt8.ofNat x] else UInt8.ofNat (x % 128 + 128) :: varB (x / 128)
termination_by x
decreasing_by omega
theorem varB_small {x : Nat} (h : x < 128) : varB x = [UInt8.ofNat x] := by rw [varB, if_pos h]
theorem varB_big {x : Nat} (h : 128 ≤ x) : varB x = UInt8.ofNat (x % 128 + 128) :: varB (x / 128) := by rw [varB, if_neg (by omega)]

set_option maxRecDepth 100000 in
theorem or128_nat : ∀ n : Fin 256, bits BinOp.or IntKind.u8 (n.val : Int) 128 = ((n.val % 128 + 128 : Nat) : Int) := by decide +kernel
theorem or128 (z : Nat) : bits BinOp.or IntKind.u8 ((z : Int) % 256) 128 = ((UInt8.ofNat (z % 128 + 128)).toNat : Int) := by
  have h := or128_nat ⟨z % 256, Nat.mod_lt _ (by omega)⟩
  simp only at h
  rw [show ((z : Int) % 256) = ((z % 256 : Nat) : Int) by omega, h]
  simp
  omega

set_option maxRecDepth 100000 in
set_option maxHeartbeats 1000000 in
theorem var_calls (x : Nat) (hx : (varB x).length ≤ 10) (w : World) :
    Calls Try.prog 57 #[.int .u64 x] w fun e w' => ∃ v, e = .returned v ∧ OwnB w' w.heap.size 5 v (varB x) ∧ Below w.heap.size w w' := by
  have HX := Lib.hid hx
  clear hx
  go_enter Try.func57, Try.ntmps57
  go_wp2
  go_loopw [3, 0] (fun v y wr => ∃ (done : List UInt8) (z : Nat), z ≤ x ∧ y = .int .u64 z ∧ varB x = done ++ varB z ∧ OwnB wr w.heap.size 5 v done ∧ Below w.heap.size w wr) (fun _ y _ => (intOf y).toNat)
  case atStart => exact ⟨[], x, Nat.le_refl _, rfl, rfl, Own.nil _ _ _, Below.refl _ _⟩
  case round =>
    obtain ⟨done, z, hzx, rfl, hv, hown, hb⟩ := hrel
    have hln : done.length ≤ 10 := by have := HX.out; rw [hv, List.length_append] at this; omega
    have HV := Lib.hid hv
    clear hv
    have hbs := hb.size
    by_cases hlt : 128 ≤ z
    · go_wp2_with (at_builtin; refine wpList_append1 rfl (.tmp 6) (.tmp 10) 41 5 _ 1 rfl Try.underlying41 byte_info rfl (by omega) _ (bs done) _ rfl rfl rfl hown hb hbs (by rw [bs_length]; omega) ?_; intro v1 w1 hown1 hb1 hg1 hat1)
      go_roundw
      case rel =>
        refine ⟨done ++ [UInt8.ofNat (z % 128 + 128)], z / 128, by omega, ?_, ?_, ?_, hb1⟩
        · go_num
        · rw [HV.out, varB_big hlt]; simp
        · unfold OwnB
          rw [bs_append]
          rw [or128] at hown1
          exact hown1
      case measure => simp [intOf]; omega
    · go_wp2_with (at_builtin; refine wpList_append1 rfl (.tmp 14) (.tmp 17) 41 5 _ 1 rfl Try.underlying41 byte_info rfl (by omega) _ (bs done) _ rfl rfl rfl hown hb hbs (by rw [bs_length]; omega) ?_; intro v1 w1 hown1 hb1 hg1 hat1)
      go_ret
      refine ⟨v1, rfl, ?_, hb1⟩
      rw [HV.out, varB_small (by omega)]
      unfold OwnB
      rw [bs_append]
      have e : ((UInt8.ofNat z).toNat : Int) = (z : Int) := by simp; omega
      have hb1 : bs [UInt8.ofNat z] = [.int .u8 (z : Int)] := by simp only [bs, List.map_cons, List.map_nil, e]
      rw [hb1]
      exact hown1

/-- How many sectors so many bytes take. -/
def spanN (n : Nat) : Nat := (n + 63) / 64
theorem span_calls (n : Nat) (hn : n ≤ 1000000000) (w : World) :
    Calls Try.prog 52 #[.int .i64 n] w fun e w' => e = .returned (.int .i64 (spanN n : Int)) ∧ w = w' := by
  go_enter Try.func52, Try.ntmps52
  go_wp2
  go_ret
  exact ⟨ret_int (by unfold spanN; omega), rfl⟩

theorem str_at (s : ByteArray) (k : Nat) (h : k < s.size) : ∃ hl : k < s.toList.length, s.toList[k] = s[k] := by
  have e : s.toList = s.data.toList := ByteArray.toList_eq s
  refine ⟨by rw [e]; simpa using h, ?_⟩
  have : ∀ (l : List UInt8) (hl : k < l.length), l = s.data.toList → l[k] = s[k] := by
    intro l hl el
    subst el
    rfl
  exact this _ _ e
theorem str_length (s : ByteArray) : s.toList.length = s.size := by rw [ByteArray.toList_eq]; simp

/-- Whether a text is a key. -/
def keyc (c : UInt8) : Bool := decide (33 ≤ c.toNat) && decide (c.toNat ≤ 126)
def namedB (s : List UInt8) : Bool := s.all keyc && !s.isEmpty && decide (s.length ≤ 40)
set_option maxHeartbeats 400000 in
theorem named_calls (s : ByteArray) (hs : s.size ≤ 140737488351232) (w : World) :
    Calls Try.prog 73 #[.string s] w fun e w' => e = .returned (.bool (namedB s.toList)) ∧ w = w' := by
  go_enter Try.func73, Try.ntmps73
  go_wp2
  go_loop [6] (fun i => ∃ k : Nat, k ≤ s.size ∧ i = .int .i64 k ∧ (s.toList.take k).all keyc = true) (fun i => s.size - (intOf i).toNat)
  case atStart => exact ⟨0, Nat.zero_le _, rfl, rfl⟩
  case round =>
    obtain ⟨k, hk, rfl, hz⟩ := hrel
    have HZ := Lib.hid hz
    clear hz
    by_cases hlt : k < s.size
    · obtain ⟨hl, he⟩ := str_at s k hlt
      by_cases h1 : 33 ≤ s[k].toNat ∧ s[k].toNat ≤ 126
      · have hz1 : (s.toList.take (k + 1)).all keyc = true := by
          rw [List.take_succ_eq_append_getElem hl, List.all_append, HZ.out, he]
          simp [keyc, h1]
        have HZ1 := Lib.hid hz1
        have h2 : (33 : Int) ≤ (s[k].toNat : Int) := by omega
        have h3 : (s[k].toNat : Int) ≤ 126 := by omega
        clear hz1 h1 he
        go_wp2
        go_round
        case rel => exact ⟨k + 1, by omega, by go_num, HZ1.out⟩
        case measure => simp [intOf]; omega
      · have hz1 : namedB s.toList = false := by
          unfold namedB
          have : s.toList.all keyc = false := by
            rw [List.all_eq_false]
            refine ⟨s.toList[k], List.getElem_mem _, ?_⟩
            rw [he]
            simp [keyc]
            omega
          rw [this]
          rfl
        have HZ1 := Lib.hid hz1
        clear hz1 he
        by_cases h2 : s[k].toNat < 33
        · go_wp2
          go_ret
          exact ⟨ret_bool HZ1.out.symm, rfl⟩
        · have h3 : (126 : Int) < (s[k].toNat : Int) := by omega
          go_wp2
          go_ret
          exact ⟨ret_bool HZ1.out.symm, rfl⟩
    · have hz1 : s.toList.all keyc = true := by
        have := HZ.out
        rwa [List.take_of_length_le (by rw [str_length]; omega)] at this
      have hz2 : namedB s.toList = (!s.toList.isEmpty && decide ((s.size : Int) ≤ 40)) := by
        unfold namedB
        rw [hz1, str_length]
        simp only [Bool.true_and]
        congr 1
        exact decide_eq_decide.2 (by omega)
      have HZ1 := Lib.hid hz2
      clear hz1 hz2
      cases hne : s.toList.isEmpty
      · have HN := Lib.hid hne
        go_wp2
        go_ret
        exact ⟨ret_bool (by rw [HZ1.out, HN.out]; rfl), rfl⟩
      · have HN := Lib.hid hne
        go_wp2
        go_ret
        exact ⟨ret_bool (by rw [HZ1.out, HN.out]; rfl), rfl⟩
end Go.Proofs.Ytmfjhejhbomlpaa
