/- A fresh store; the walk that tells whether anything is kept at all. -/
import Derived.Test.YtmfjhejhbomlpaaSl
import Derived.Test.YtmfjhejhbomlpaaPb
import Derived.Lib.SlBytesConst
set_option linter.unusedVariables false
set_option linter.unusedSimpArgs false
namespace Go.Proofs.Ytmfjhejhbomlpaa
open Go.RowKit

theorem wipe_blank (now : List (List UInt8)) (f : Nat) (D : DM) : ∀ (m : Nat), (∀ k, zeroB (now.getD (f + k) []) = true) → wipeG now f m D false = (D, 0)
  | 0, _ => by rw [wipeG]; rfl
  | m + 1, h => by rw [wipeG, if_pos (h m)]; exact wipe_blank now f D m h
theorem new_blank (n k : Nat) : zeroB ((DM.new n).now.getD k []) = true := by
  rw [List.getD_eq_getElem?_getD]
  cases h : (DM.new n).now[k]? with
  | none => rfl
  | some s =>
    have := List.mem_of_getElem? h
    rw [(List.mem_replicate.1 this).2]
    rfl
/-- A store on a disk of n sectors that nothing was written to. -/
def freshS (n : Nat) (q : Int) : SM := ⟨⟨[], 0, false, DM.new n⟩, [], q⟩
theorem fresh_ok (n : Nat) (q : Int) : (freshS n q).ok := ⟨⟨rfl, Nat.zero_le _, Nat.zero_le _, by simp [freshS]⟩, List.Pairwise.nil, Nat.zero_le _⟩
theorem sopen_new {b n : Nat} {F : Nat → Prop} (w : World) (h : DiskAt w b (DM.new n) F) (q : Int) (hq : 0 ≤ q) :
    Calls Try.prog 10 #[.pointer (some ⟨b, 0, none⟩), .int .i64 q] w fun e w' => ∃ sb, e = .returned (.tuple #[.pointer (some ⟨sb, 0, none⟩), .int .i64 0]) ∧
      ∃ F', StoreAt w' w.heap.size sb b (freshS n q) F' ∧ Sub w F F' ∧ Changed F w w' := by
  have hw := wipe_blank (DM.new n).now (nxt []) (DM.new n) ((DM.new n).now.length - nxt []) (fun k => new_blank n _)
  have h1 := sopen_ok w h rfl (Nat.zero_le _) [] (DM.new n).now (by simp) rfl (fun s hs => by
    have hm := List.mem_of_mem_head? hs
    rw [(List.mem_replicate.1 hm).2]
    rfl) q hq (by rw [hw]) [] rfl
  rw [hw] at h1
  exact h1

def chA : Chg := ⟨⟨#[97]⟩, false, [49]⟩
theorem str97 : (⟨#[97]⟩ : ByteArray).toList = [97] := toStr_list [97]
theorem check_A : checkG [chA] = 0 := by
  unfold checkG
  rw [if_neg (by decide)]
  rw [checkL]
  rw [show chA.key.toList = [97] from str97]
  rfl
theorem varB_1 (k : Nat) (h : k < 128) : (varB k).length = 1 := by rw [varB_small h]; rfl
theorem enc_A : (encB [chA]).length = 6 := by
  have e : encB [chA] = varB 1 ++ ([0] ++ varB 1 ++ [97] ++ (varB 1 ++ [49]) ++ []) := by
    simp only [encB, List.flatMap_cons, List.flatMap_nil, encC]
    rw [show chA.key.toList = [97] from str97]
    rfl
  rw [e, varB_small (by omega)]
  rfl
theorem commit_A : ((freshS 2 9).commit [chA]).2 = 0 ∧ bytesL ((freshS 2 9).commit [chA]).1.L = 2 := by
  have hL : doneL [] [chA] = [(chA.key, [49])] := rfl
  have hb : bytesL [(chA.key, ([49] : List UInt8))] = 2 := rfl
  have ha : ((freshS 2 9).log.append (encB [chA])).2 = 0 := by
    unfold LM.append
    rw [if_neg (by decide), if_neg (by rw [enc_A]; decide), if_neg (by rw [enc_A]; decide), if_pos (show (layG (freshS 2 9).log.next (frameB ((freshS 2 9).log.T.length + 1) (encB [chA])) (freshS 2 9).log.D).2 = 0 from (calm_lay _ _ (calm_new 2)).1)]
  have hc : (freshS 2 9).commit [chA] = (⟨((freshS 2 9).log.append (encB [chA])).1, [(chA.key, [49])], 9⟩, 0) := by
    unfold SM.commit
    rw [if_neg (by rw [check_A]; decide)]
    rw [if_neg (by rw [show (freshS 2 9).L = [] from rfl, hL, hb]; decide), if_pos ha]
    rfl
  rw [hc]
  exact ⟨rfl, hb⟩

set_option maxRecDepth 100000 in
set_option maxHeartbeats 2000000 in
theorem lives_calls (w : World) : Calls Try.prog 18 #[] w fun e w' => e = .returned (.bool true) ∧ Below w.heap.size w w' := by
  have kc := fun (w : World) (C : Array Value) (n c : Nat) => Lib.run_convert_bytes_const (P := Try.prog) w 41 5 C n c Try.underlying41 Try.underlying5
  go_enter Try.func18, Try.ntmps18
  go_wp2_with (first
    | (go_at_call 9; refine (new_ok 2 (by omega) (by omega) _).mono ?_; rintro e w1 ⟨bd, FD, rfl, hd1, hF1, hb1⟩)
    | (go_at_call 10; refine (sopen_new w1 hd1 9 (by omega)).mono ?_; rintro e w2 ⟨sb, rfl, F2, hs2, hsu2, hc2⟩)
    | fail)
  have hbW : Below w2.heap.size w2 ((w2.alloc (.cells #[.int .u8 49] 5 (1, 2))).alloc (.cells #[.string ⟨#[97]⟩, .bool false, .slice (some ⟨w2.heap.size, 0, none⟩) 1 1] 81)) := ((Below.refl _ _).alloc (Nat.le_refl _) _).alloc (by simp) _
  have hrow : Blk ((w2.alloc (.cells #[.int .u8 49] 5 (1, 2))).alloc (.cells #[.string ⟨#[97]⟩, .bool false, .slice (some ⟨w2.heap.size, 0, none⟩) 1 1] 81)) (w2.heap.size + 1) 81 #[.string ⟨#[97]⟩, .bool false, .slice (some ⟨w2.heap.size, 0, none⟩) 1 1] := by
    have := Blk.new (w2.alloc (.cells #[.int .u8 49] 5 (1, 2))) 81 #[.string ⟨#[97]⟩, .bool false, .slice (some ⟨w2.heap.size, 0, none⟩) 1 1]
    simpa using this
  have hby : ((w2.alloc (.cells #[.int .u8 49] 5 (1, 2))).alloc (.cells #[.string ⟨#[97]⟩, .bool false, .slice (some ⟨w2.heap.size, 0, none⟩) 1 1] 81)).heap[w2.heap.size]? = some (.cells #[.int .u8 49] 5 (1, 2)) := by
    rw [Below.heap_alloc _ _ _ (by simp)]
    exact heap_alloc_new w2 _
  have hszW : ((w2.alloc (.cells #[.int .u8 49] 5 (1, 2))).alloc (.cells #[.string ⟨#[97]⟩, .bool false, .slice (some ⟨w2.heap.size, 0, none⟩) 1 1] 81)).heap.size = w2.heap.size + 2 := by simp
  have hsW := hs2.below hbW
  have hlt2 := hs2.lt
  generalize (w2.alloc (.cells #[.int .u8 49] 5 (1, 2))).alloc (.cells #[.string ⟨#[97]⟩, .bool false, .slice (some ⟨w2.heap.size, 0, none⟩) 1 1] 81) = W at *
  have hrb : RB W (.slice (some ⟨w2.heap.size, 0, none⟩) 1 1) [49] := ⟨_, 1, rfl, Nat.le_refl _, by simp, by unfold maxLen; omega, ⟨rfl, fun _ => ⟨_, rfl, by simp; omega, World.news_of_block (cs := #[.int .u8 49]) (t := 5) (fr := (1, 2)) hby⟩⟩⟩
  have hcl : CL W (.slice (some ⟨w2.heap.size + 1, 0, none⟩) 1 1) [(chA, .slice (some ⟨w2.heap.size, 0, none⟩) 1 1)] := ⟨_, 1, rfl, Nat.le_refl _, by unfold maxLen; omega, by simp, ⟨rfl, fun _ => ⟨_, rfl, by simp; omega, World.news_of_block (cs := #[.string ⟨#[97]⟩, .bool false, .slice (some ⟨w2.heap.size, 0, none⟩) 1 1]) (t := 81) (fr := (0, 0)) hrow⟩⟩, fun x hx => by
    rw [List.mem_singleton.1 hx]
    exact ⟨hrb, show chA.key.size ≤ 1000000 by decide⟩⟩
  have hca : CLa (.slice (some ⟨w2.heap.size + 1, 0, none⟩) 1 1) [(chA, .slice (some ⟨w2.heap.size, 0, none⟩) 1 1)] F2 := ⟨fun k hk hf => by
    have h1 : w2.heap.size + 1 = k := by simpa [Value.ownBlock] using hk
    have := hlt2 k hf
    omega, fun x hx k hk hf => by
    rw [List.mem_singleton.1 hx] at hk
    have h1 : w2.heap.size = k := by simpa [Value.ownBlock] using hk
    have := hlt2 k hf
    omega⟩
  have hsz1 := hb1.size
  have hsz2 := hc2.size
  have hcm := commit_at W (by omega) hsW (fresh_ok 2 9) _ _ hcl hca
  rw [List.map_cons, List.map_nil, commit_A.1] at hcm
  have HCM := Lib.hid hcm
  clear hcm hca hcl hrb hby hrow hs2
  go_wp2_with (first
    | (go_at_call 12; refine HCM.out.mono ?_; rintro e w5 ⟨rfl, F5, hs5, hsu5, hc5⟩; have hus := used_at hs5; rw [commit_A.2] at hus; have HUS := Lib.hid hus; clear hus)
    | (go_at_call 23; refine HUS.out.mono ?_; rintro e w' ⟨rfl, rfl⟩))
  go_ret
  have hcc : Changed FD w1 _ := (hc2.trans (Changed.of_below (S := fun _ => False) hbW) (fun _ h => h.elim)).trans hc5 hsu2
  exact ⟨rfl, ((Changed.of_below (S := fun _ => False) hb1).trans hcc (fun k hk => .inr (hF1 k hk))).below (fun _ h => h.elim)⟩
end Go.Proofs.Ytmfjhejhbomlpaa
