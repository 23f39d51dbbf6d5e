/- Bytes as changes: the walks that read a piece, a change. -/
import Derived.Test.YtmfjhejhbomlpaaSb
import Derived.Test.YtmfjhejhbomlpaaDd
import Derived.Test.YtmfjhejhbomlpaaVb
import Derived.Laws.BytesString
import Derived.Laws.Cells
import Derived.Deep.QuietTactic
import Derived.BigQuiet
set_option linter.unusedVariables false
set_option linter.unusedSimpArgs false
namespace Go.Proofs.Ytmfjhejhbomlpaa
open Go.RowKit

theorem rd_len : ∀ (xs : List UInt8) (k z : Nat), (rdVar xs k z).2.2 = 0 → k + 1 ≤ (rdVar xs k z).2.1 ∧ (rdVar xs k z).2.1 ≤ k + xs.length
  | [], k, z, h => by simp [rdVar] at h
  | b :: r, k, z, h => by
    rw [rdVar] at h ⊢
    split at h <;> rename_i h1
    · simp at h
    rw [if_neg h1]
    split at h <;> rename_i h2
    · rw [if_pos h2]
      split at h <;> rename_i h3
      · simp at h
      · rw [if_neg h3]
        simp
    · rw [if_neg h2]
      have := rd_len r (k + 1) _ h
      rw [List.length_cons]
      omega

theorem str_cells (xs : List UInt8) (s : ByteArray) : (xs.map fun x => (x.toNat : Int)).foldl (fun (r : ByteArray) (n : Int) => r.push (UInt8.ofNat n.toNat)) s = ⟨s.data ++ xs.toArray⟩ := by
  induction xs generalizing s with
  | nil => simp
  | cons x xs ih =>
    rw [List.map_cons, List.foldl_cons, ih]
    congr 1
    apply Array.ext'
    simp [ByteArray.push]
theorem toStr_run {P : Program} {w : World} (src dst e : TypeId) (hs : P.underlying src = some (.slice e)) (he : P.underlying e = some (.int .u8)) (hd : P.underlying dst = some .string) {v : Value} {xs : List UInt8} (h : RB w v xs) :
    (convert src dst v).run P w = .ok (.string ⟨xs.toArray⟩) w := by
  obtain ⟨A, c, rfl, hc, hn, hm, hr⟩ := h
  rw [run_convert_bytes_string w src dst e A xs.length c hs he hd]
  rcases Nat.eq_zero_or_pos xs.length with h0 | h0
  · have : xs = [] := List.eq_nil_of_length_eq_zero h0
    subst this
    cases A <;> simp [Conv.bytesToString, loadCells, loadCellsFrom]
    all_goals rfl
  · obtain ⟨ad, rfl, _, hcell⟩ := hr.2 h0
    have hl := run_loadCells_list (P := P) (w := w) ad (bs xs) hcell
    rw [bs_length] at hl
    have e1 : bs xs = (xs.map fun x => (x.toNat : Int)).map (Value.int .u8) := by simp [bs, List.map_map, Function.comp_def]
    rw [e1] at hl
    rw [run_bytesToString w ad xs.length c _ hl, str_cells]
    congr 2
    apply ByteArray.ext
    show (#[] : Array UInt8) ++ xs.toArray = xs.toArray
    simp
theorem toStr_list (xs : List UInt8) : (⟨xs.toArray⟩ : ByteArray).toList = xs := by rw [ByteArray.toList_eq]
theorem toStr_size (xs : List UInt8) : (⟨xs.toArray⟩ : ByteArray).size = xs.length := by rw [← str_length, toStr_list]

/-- A piece: what a short number counts, and what is behind. -/
def pieceB (b : List UInt8) : Option (List UInt8 × List UInt8) :=
  if (rdVar b 0 0).2.2 = 0 ∧ (rdVar b 0 0).1 ≤ b.length - (rdVar b 0 0).2.1 then some ((b.take ((rdVar b 0 0).2.1 + (rdVar b 0 0).1)).drop (rdVar b 0 0).2.1, b.drop ((rdVar b 0 0).2.1 + (rdVar b 0 0).1)) else none

theorem piece_no (w : World) (v : Value) (b : List UInt8) (h : RB w v b) (hp : pieceB b = none) :
    Calls Try.prog 72 #[v] w fun e w' => e = .returned (.tuple #[.slice none 0 0, .slice none 0 0, .bool false]) ∧ w = w' := by
  have hrv := readVar_calls v b w h
  have HRV := Lib.hid hrv
  have hrl := rd_len b 0 0
  obtain ⟨A, c, rfl, hc, hn, hm, hr⟩ := h
  unfold pieceB at hp
  unfold maxLen at hm
  generalize rdVar b 0 0 = t at *
  obtain ⟨x, n, e⟩ := t
  simp only at hrl hp HRV
  clear hrv
  by_cases he : e = 0
  · subst he
    have hx : ¬ x ≤ b.length - n := by
      intro h
      rw [if_pos ⟨rfl, h⟩] at hp
      cases hp
    obtain ⟨h1, h2⟩ := hrl rfl
    have h3 : (b.length : Int) - (n : Int) < (x : Int) := by omega
    clear hp hrl hx
    go_enter Try.func72, Try.ntmps72
    go_wp2_with (go_at_call 54; refine HRV.out.mono ?_; rintro e w' ⟨rfl, rfl⟩)
    go_ret3
    exact ⟨rfl, rfl⟩
  · have hb : ((e : Int) != 0) = true := by rw [bne_iff_ne]; omega
    clear hp hrl he
    go_enter Try.func72, Try.ntmps72
    go_wp2_with (go_at_call 54; refine HRV.out.mono ?_; rintro e w' ⟨rfl, rfl⟩)
    go_ret3
    exact ⟨rfl, rfl⟩

theorem piece_ok (w : World) (v : Value) (b x r : List UInt8) (h : RB w v b) (hp : pieceB b = some (x, r)) :
    Calls Try.prog 72 #[v] w fun e w' => ∃ v1 v2, e = .returned (.tuple #[v1, v2, .bool true]) ∧ Hid (∀ W, RB W v b → RB W v1 x ∧ RB W v2 r) ∧ ∃ n, w' = w.drewN n := by
  have hrv := readVar_calls v b w h
  have HRV := Lib.hid hrv
  have hrl := rd_len b 0 0
  have hrb := h
  obtain ⟨A, c, rfl, hc, hn, hm, hr⟩ := h
  unfold pieceB at hp
  unfold maxLen at hm
  generalize rdVar b 0 0 = t at *
  obtain ⟨z, n, e⟩ := t
  simp only at hrl hp HRV
  clear hrv
  split at hp <;> rename_i hcond
  · obtain ⟨rfl, hz⟩ := hcond
    obtain ⟨h1, h2⟩ := hrl rfl
    injection hp with hp
    injection hp with hp1 hp2
    obtain ⟨ad, rfl, _⟩ := hr.2 (by omega)
    have hr12 : ∀ W, RB W (.slice (some ad) b.length c) b → RB W (.slice (if c = n then some ad else some (ad.add n)) z (if c = n then 0 else n + z - n + (c - (n + z)))) x ∧ RB W (.slice (if c = n + z then some ad else some (ad.add (n + z))) (b.length - (n + z)) (c - (n + z))) r := by
      intro W hW
      have hr1 := RB.drop (k := n) (RB.take (k := n + z) hW (by omega)) (by omega)
      have hr2 := RB.drop (k := n + z) hW (by omega)
      rw [hp1] at hr1
      rw [hp2] at hr2
      refine ⟨?_, hr2⟩
      rw [show n + z - n = z by omega] at hr1
      by_cases hcn : c = n
      · rw [if_pos hcn] at hr1
        rw [if_pos hcn, if_pos hcn]
        rw [show c - n = 0 by omega] at hr1
        exact hr1
      · rw [if_neg hcn] at hr1
        rw [if_neg hcn, if_neg hcn]
        rw [show n + z - n + (c - (n + z)) = c - n by omega]
        exact hr1
    have h3 : (z : Int) ≤ (b.length : Int) - (n : Int) := by omega
    have hsum : IntKind.i64.wrap ((n : Int) + (z : Int)) = (n : Int) + (z : Int) := IntWalk.i64_in _ (by omega)
    have hnat : ((n : Int) + (z : Int)).toNat = n + z := by omega
    by_cases hcn : c = n
    · obtain rfl : z = 0 := by omega
      subst hcn
      have HR : Hid (∀ W, RB W (.slice (some ad) b.length c) b → RB W (.slice (some ad) 0 0) x ∧ RB W (.slice (some ad) 0 0) r) := Lib.hid fun W hW => by
        obtain ⟨g1, g2⟩ := hr12 W hW
        rw [if_pos rfl, if_pos rfl] at g1
        rw [if_pos (by omega), show b.length - (c + 0) = 0 by omega, show c - (c + 0) = 0 by omega] at g2
        exact ⟨g1, g2⟩
      clear hnat hsum hp1 hp2 hrl hr12 hr hrb hz
      go_enter Try.func72, Try.ntmps72
      go_wp2_with (go_at_call 54; refine HRV.out.mono ?_; rintro e w' ⟨rfl, rfl⟩)
      go_quiet (fail)
      go_wp2
      go_ret3
      exact ⟨_, _, rfl, HR, nq, rfl⟩
    by_cases hcz : c = n + z
    · subst hcz
      have HR : Hid (∀ W, RB W (.slice (some ad) b.length (n + z)) b → RB W (.slice (some (ad.add n)) z z) x ∧ RB W (.slice (some ad) 0 0) r) := Lib.hid fun W hW => by
        obtain ⟨g1, g2⟩ := hr12 W hW
        rw [if_neg hcn, if_neg hcn, show n + z - n + (n + z - (n + z)) = z by omega] at g1
        rw [if_pos rfl, show b.length - (n + z) = 0 by omega, show n + z - (n + z) = 0 by omega] at g2
        exact ⟨g1, g2⟩
      clear hp1 hp2 hrl hr12 hr hrb hz
      go_enter Try.func72, Try.ntmps72
      go_wp2_with (go_at_call 54; refine HRV.out.mono ?_; rintro e w' ⟨rfl, rfl⟩)
      go_quiet (fail)
      go_wp2
      go_ret3
      exact ⟨_, _, rfl, HR, nq, rfl⟩
    · have HR : Hid (∀ W, RB W (.slice (some ad) b.length c) b → RB W (.slice (some (ad.add n)) z (c - n)) x ∧ RB W (.slice (some (ad.add (n + z))) (b.length - (n + z)) (c - (n + z))) r) := Lib.hid fun W hW => by
        obtain ⟨g1, g2⟩ := hr12 W hW
        rw [if_neg hcn, if_neg hcn, show n + z - n + (c - (n + z)) = c - n by omega] at g1
        rw [if_neg hcz] at g2
        exact ⟨g1, g2⟩
      clear hp1 hp2 hrl hr12 hr hrb hz
      go_enter Try.func72, Try.ntmps72
      go_wp2_with (go_at_call 54; refine HRV.out.mono ?_; rintro e w' ⟨rfl, rfl⟩)
      go_quiet (fail)
      go_wp2
      go_ret3
      exact ⟨_, _, rfl, HR, nq, rfl⟩
  · cases hp
end Go.Proofs.Ytmfjhejhbomlpaa
