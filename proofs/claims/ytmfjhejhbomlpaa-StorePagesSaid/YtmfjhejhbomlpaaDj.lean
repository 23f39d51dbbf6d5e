/- Walks of the log: its texts, its room. -/
import Derived.Test.YtmfjhejhbomlpaaDh
set_option linter.unusedVariables false
set_option linter.unusedSimpArgs false
namespace Go.Proofs.Ytmfjhejhbomlpaa
open Go.RowKit

section
variable {B bl bd next : Nat} {lv : Value} {vs : List Value} {T : List (List UInt8)} {D : DM} {F : Nat → Prop}

theorem append_nil (w : World) (v : Value) : Calls Try.prog 35 #[.pointer none, v] w fun e w' => e = .returned (.int .i64 1) ∧ w = w' := by
  go_enter Try.func35, Try.ntmps35
  go_wp2
  go_ret
  exact ⟨rfl, rfl⟩

def roomN (n next : Nat) : Int := min (max ((n - next : Nat) * 64 - 20 : Int) (-1)) 16384

theorem wroom_calls (w : World) (dead : Bool) (hl : LogB w B bl bd lv vs next dead T) (hd : DiskAt w bd D F) (hnx : next ≤ D.now.length) :
    Calls Try.prog 46 #[.pointer (some ⟨bl, 0, none⟩)] w fun e w' => e = .returned (.int .i64 (roomN D.now.length next)) ∧ Below w.heap.size w w' := by
  have c0 := hl.c0
  have c2 := hl.c2
  have hmx := hd.ok.max
  have h1 : IntKind.i64.wrap ((D.now.length : Int) - (next : Int)) = (D.now.length : Int) - (next : Int) := IntWalk.i64_in _ (by omega)
  have h2 : IntKind.i64.wrap (((D.now.length : Int) - (next : Int)) * 64) = ((D.now.length : Int) - (next : Int)) * 64 := IntWalk.i64_in _ (by omega)
  go_enter Try.func46, Try.ntmps46
  go_wp2
  go_quiet ((go_at_call 48; exact quiet_left (sectors_at _ (DiskAt.drewN hd _))))
  go_wp2_with (go_at_call 65; refine (size_calls 0 (by omega) _).mono ?_; rintro e w' ⟨rfl, rfl⟩)
  all_goals (go_ret; exact ⟨ret_int (by unfold roomN; omega), Below.drewN (Below.refl _ _) _⟩)

set_option maxHeartbeats 1000000 in
theorem texts_calls (w : World) (dead : Bool) (hl : LogB w B bl bd lv vs next dead T) (hT : T.length ≤ 4096) (hT2 : ∀ t ∈ T, t.length ≤ 16384) :
    Calls Try.prog 30 #[.pointer (some ⟨bl, 0, none⟩)] w fun e w' => ∃ v us, e = .returned v ∧ Own w' w.heap.size 41 v us ∧ Els w' w.heap.size us T ∧ Below w.heap.size w w' := by
  have c1 := hl.c1
  obtain ⟨A, c, hlv, hc, hrd⟩ := Own.reads hl.row
  subst hlv
  have hvs := hl.els.1
  have HVS := Lib.hid hvs
  have hv4 : vs.length ≤ 4096 := by omega
  clear hvs
  go_enter Try.func30, Try.ntmps30
  go_wp2
  go_loopw [13, 3] (fun i v wr => ∃ (k : Nat) (us : List Value), k ≤ vs.length ∧ i = .int .i64 (k : Int) ∧ us.length = k ∧ Own wr w.heap.size 41 v us ∧ Els wr w.heap.size us (T.take k) ∧ Below w.heap.size w wr) (fun i _ _ => vs.length - (intOf i).toNat)
  case atStart => exact ⟨0, [], Nat.zero_le _, rfl, rfl, Own.nil _ _ _, Els.nil _ _, Below.refl _ _⟩
  case round =>
    obtain ⟨k, us, hk, rfl, hus, hown, hels, hb⟩ := hrel
    by_cases hlt : k < vs.length
    · obtain ⟨ad, u, rfl, hadb, hu, hcu⟩ := hrd.at_ hlt
      have hcw : wr.cell? (ad.add k) = some u := by
        rw [← hcu]
        exact hb.cell (by rw [block_of_add]; exact hadb)
      have hkT : k < T.length := by rw [← HVS.out]; exact hlt
      have hou : OwnB w B 5 u T[k] := hl.els.2 k u T[k] hu (List.getElem?_eq_getElem hkT)
      have hlen := hT2 _ (List.getElem_mem hkT)
      have hru : RB wr u T[k] := (OwnB.rb hou (by omega)).below hb
      obtain ⟨uA, uc, hue, _⟩ := Own.slice hou
      have htk : T.take (k + 1) = T.take k ++ [T[k]] := List.take_succ_eq_append_getElem hkT
      have HTK := Lib.hid htk
      have HLEN := Lib.hid hlen
      clear htk hlen
      subst hus
      subst hue
      go_wp2_with (first
        | (go_at_call 47; refine (clone_calls _ _ _ hru).mono ?_; rintro e w5 ⟨v5, rfl, hown5, hb5⟩; obtain ⟨A5, c5, hv5, hc5, hr5⟩ := Own.reads hown5; subst hv5; have hown' := Own.below hown hb5; have hbw5 := Below.step hb hb.size hb5; have hels5 := Els.snoc (hels.changed (Changed.of_below (S := fun _ => False) hb5) (NoTy.none _ _)) (Own.low hown5 hb.size))
        | (at_builtin; refine wpList_append1 rfl (.tmp 17) (.tmp 20) 75 41 _ 24 rfl Try.underlying75 row_info rfl (by omega) _ us _ rfl rfl rfl hown' hbw5 hbw5.size (by omega) ?_; intro v6 w6 hown6 hb6 hg6 hat6))
      go_roundw
      case rel => exact ⟨us.length + 1, _, by omega, by go_num, by simp, hown6, by rw [HTK.out]; exact hels5.changed (Changed.grown hg6) (fun q hq ht => absurd ((ownsRow_ty hown' q hq.symm).uniq ht) (by decide)), hb6⟩
      case measure => simp [intOf]; omega
    · obtain rfl : k = vs.length := by omega
      rw [HVS.out, List.take_length] at hels
      go_wp2
      go_ret
      exact ⟨_, us, rfl, hown, hels, hb⟩
end
end Go.Proofs.Ytmfjhejhbomlpaa
