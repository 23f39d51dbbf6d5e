/- Walks of the smallest functions: bytes copied, cut, compared. -/
import Derived.Test.YtmfjhejhbomlpaaProg
import Derived.Test.YtmfjhejhbomlpaaBase2
import Derived.Tactics
import Derived.Tactics2
import Derived.KernelRfl
import Derived.Deep.DeepCutAuto
import Derived.Deep.QuietTactic
import Derived.BigQuiet
import Derived.Deep.RegionHeld3
import Derived.Outline
import Derived.WalkSpells
set_option linter.unusedVariables false
set_option linter.unusedSimpArgs false
namespace Go.Proofs.Ytmfjhejhbomlpaa
open Go.RowKit

theorem byte_info : (Try.prog.info? 5).map (fun i => (i.zero, i.size, i.bytes)) = some (some (.int .u8 0), 1, 1) := by kernel_rfl

theorem copy_calls (v : Value) (xs : List UInt8) (w : World) (h : RB w v xs) :
    Calls Try.prog 36 #[v] w fun e w' => ∃ v, e = .returned v ∧ OwnB w' w.heap.size 5 v xs ∧ Below w.heap.size w w' := by
  obtain ⟨A, c, rfl, hc, hn, hm, hr⟩ := h
  go_enter Try.func36, Try.ntmps36
  go_wp2_with (at_builtin; refine wpList_appendAll rfl (.tmp 4) (.tmp 5) 41 5 _ _ rfl Try.underlying41 byte_info rfl (by omega) (.slice none 0 0) [] rfl A xs.length c (bs xs) rfl w.heap.size hr (bs_one xs) (Own.nil _ _ _) (Below.refl _ _) (Nat.le_refl _) (by simp; omega) ?_; intro v1 w1 hown1 hb1 hg1 hat1)
  go_ret
  exact ⟨v1, rfl, hown1, hb1⟩

theorem cut_calls (v : Value) (xs : List UInt8) (k : Nat) (hk : k ≤ 140737488351232) (w : World) (h : RB w v xs) :
    Calls Try.prog 37 #[v, .int .i64 k] w fun e w' => ∃ v, e = .returned v ∧ RB w v (xs.take k) ∧ w = w' := by
  obtain ⟨A, c, rfl, hc, hn, hm, hr⟩ := h
  unfold maxLen at hm
  by_cases hlt : k < xs.length
  · go_enter Try.func37, Try.ntmps37
    go_wp2
    go_ret
    exact ⟨_, rfl, RB.take (n := xs.length) ⟨A, c, rfl, hc, hn, by unfold maxLen; omega, hr⟩ (Nat.le_of_lt hlt), rfl⟩
  · go_enter Try.func37, Try.ntmps37
    go_wp2
    go_ret
    refine ⟨_, rfl, ?_, rfl⟩
    rw [List.take_of_length_le (by omega)]
    exact ⟨A, c, rfl, hc, hn, by unfold maxLen; omega, hr⟩

theorem least_calls (n lo hi : Int) (w : World) :
    Calls Try.prog 8 #[.int .i64 n, .int .i64 lo, .int .i64 hi] w fun e w' => e = .returned (.int .i64 (if n < lo then lo else if n > hi then hi else n)) ∧ w = w' := by
  by_cases h1 : n < lo
  · go_enter Try.func8, Try.ntmps8
    go_wp2
    go_ret
    exact ⟨rfl, rfl⟩
  · by_cases h2 : n > hi
    · go_enter Try.func8, Try.ntmps8
      go_wp2
      go_ret
      exact ⟨rfl, rfl⟩
    · go_enter Try.func8, Try.ntmps8
      go_wp2
      go_ret
      exact ⟨rfl, rfl⟩

theorem cutS_calls (s : ByteArray) (k : Nat) (hk : k ≤ 140737488351232) (w : World) :
    Calls Try.prog 7 #[.string s, .int .i64 k] w fun e w' => e = .returned (.string (s.extract 0 k)) ∧ w = w' := by
  by_cases hlt : k < s.size
  · go_enter Try.func7, Try.ntmps7
    go_wp2
    go_ret
    exact ⟨rfl, rfl⟩
  · go_enter Try.func7, Try.ntmps7
    go_wp2
    go_ret
    refine ⟨?_, rfl⟩
    have : s.extract 0 k = s := by
      apply ByteArray.ext
      rw [ByteArray.data_extract]
      exact Array.extract_eq_self_of_le (by simp; omega)
    rw [this]
    rfl

theorem clone_calls (v : Value) (xs : List UInt8) (w : World) (h : RB w v xs) :
    Calls Try.prog 47 #[v] w fun e w' => ∃ v, e = .returned v ∧ OwnB w' w.heap.size 5 v xs ∧ Below w.heap.size w w' := by
  obtain ⟨A, c, rfl, hc, hn, hm, hr⟩ := h
  rcases A with _ | ad
  · have he := Lib.run_eql_slice_nil (P := Try.prog) w 41 5 none xs.length c 0 0 Try.underlying41
    simp only [Option.isNone_none] at he
    have h0 : xs = [] := by
      rcases Nat.eq_zero_or_pos xs.length with h0 | h0
      · exact List.eq_nil_of_length_eq_zero h0
      · obtain ⟨ad, h, _⟩ := hr.2 h0
        cases h
    have H0 := Lib.hid h0
    clear h0
    go_enter Try.func47, Try.ntmps47
    go_wp2
    go_ret
    exact ⟨_, rfl, by rw [H0.out]; exact Own.nil _ _ _, Below.refl _ _⟩
  · have he := Lib.run_eql_slice_nil (P := Try.prog) w 41 5 (some ad) xs.length c 0 0 Try.underlying41
    simp only [Option.isNone_some] at he
    go_enter Try.func47, Try.ntmps47
    go_wp2_with (at_builtin; refine wpList_appendAll rfl (.tmp 5) (.tmp 6) 41 5 _ _ rfl Try.underlying41 byte_info rfl (by omega) (.slice (some ⟨w.heap.size, 0, none⟩) 0 0) [] rfl (some ad) xs.length c (bs xs) rfl w.heap.size (hr.alloc (Nat.le_refl _) _) (bs_one xs) (Own.made0 _ _ _ (Nat.le_refl _)) ((Below.refl _ _).alloc (Nat.le_refl _) _) (by simp) (by simp; omega) ?_; intro v1 w1 hown1 hb1 hg1 hat1)
    go_ret
    exact ⟨v1, rfl, hown1, hb1⟩
end Go.Proofs.Ytmfjhejhbomlpaa
