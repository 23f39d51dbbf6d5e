/- Walks of the store: get, used, room; a store that is nil. -/
import Derived.Test.YtmfjhejhbomlpaaSk
set_option linter.unusedVariables false
set_option linter.unusedSimpArgs false
namespace Go.Proofs.Ytmfjhejhbomlpaa
open Go.RowKit

theorem get_nil (w : World) (key : ByteArray) : Calls Try.prog 26 #[.pointer none, .string key] w fun e w' => e = .returned (.tuple #[.slice none 0 0, .bool false]) ∧ w = w' := by
  go_enter Try.func26, Try.ntmps26
  go_wp2
  go_ret2
  exact ⟨rfl, rfl⟩
theorem used_nil (w : World) : Calls Try.prog 23 #[.pointer none] w fun e w' => e = .returned (.int .i64 0) ∧ w = w' := by
  go_enter Try.func23, Try.ntmps23
  go_wp2
  go_ret
  exact ⟨rfl, rfl⟩
theorem room_nil (w : World) : Calls Try.prog 25 #[.pointer none] w fun e w' => e = .returned (.int .i64 (-1)) ∧ w = w' := by
  go_enter Try.func25, Try.ntmps25
  go_wp2
  go_ret
  exact ⟨rfl, rfl⟩
theorem all_nil (w : World) : Calls Try.prog 15 #[.pointer none] w fun e w' => e = .returned (.slice none 0 0) ∧ w = w' := by
  go_enter Try.func15, Try.ntmps15
  go_wp2
  go_ret
  exact ⟨rfl, rfl⟩
theorem scan_nil (w : World) (front after : ByteArray) (most : Int) : Calls Try.prog 14 #[.pointer none, .string front, .string after, .int .i64 most] w fun e w' => e = .returned (.slice none 0 0) ∧ w = w' := by
  go_enter Try.func14, Try.ntmps14
  go_wp2_with (go_at_call 15; refine (all_nil _).mono ?_; rintro e w' ⟨rfl, rfl⟩)
  go_loop [15, 9] (fun i o => i = .int .i64 0 ∧ o = .slice none 0 0) (fun _ _ => 0)
  case atStart => exact ⟨rfl, rfl⟩
  case round =>
    obtain ⟨rfl, rfl⟩ := hrel
    go_wp2
    go_ret
    exact ⟨rfl, rfl⟩

section
variable {w : World} {B sb bd : Nat} {s : SM} {F : Nat → Prop}
theorem used_at (h : StoreAt w B sb bd s F) : Calls Try.prog 23 #[.pointer (some ⟨sb, 0, none⟩)] w fun e w' => e = .returned (.int .i64 (bytesL s.L : Int)) ∧ w = w' := by
  obtain ⟨bl, bm, FL, hh, hl, hm, rfl⟩ := h
  have c2 : w.cell? ⟨sb, 2, none⟩ = some (.int .i64 (bytesL s.L : Int)) := hh.cell 2
  go_enter Try.func23, Try.ntmps23
  go_wp2
  go_ret
  exact ⟨rfl, rfl⟩
theorem room_at (h : StoreAt w B sb bd s F) (ho : s.log.ok) : Calls Try.prog 25 #[.pointer (some ⟨sb, 0, none⟩)] w fun e w' => e = .returned (.int .i64 (roomN s.log.D.now.length s.log.next)) ∧ Below w.heap.size w w' := by
  obtain ⟨bl, bm, FL, hh, ⟨FD, lv, vs, hl, hd, rfl⟩, hm, rfl⟩ := h
  have c0 : w.cell? ⟨sb, 0, none⟩ = some (.pointer (some ⟨bl, 0, none⟩)) := hh.cell 0
  have hr := wroom_calls w s.log.dead hl hd ho.fits
  have HR := Lib.hid hr
  clear hr
  go_enter Try.func25, Try.ntmps25
  go_wp2_with (go_at_call 46; refine HR.out.mono ?_; rintro e w1 ⟨rfl, hb⟩)
  go_ret
  exact ⟨rfl, hb⟩
theorem get_some (h : StoreAt w B sb bd s F) (key : ByteArray) (hk : key.size ≤ maxLen) {x : List UInt8} (hx : getL s.L key = some x) (hx2 : x.length ≤ 140737488351232) :
    Calls Try.prog 26 #[.pointer (some ⟨sb, 0, none⟩), .string key] w fun e w' => ∃ u, e = .returned (.tuple #[u, .bool true]) ∧ OwnB w' w.heap.size 5 u x ∧ Below w.heap.size w w' := by
  obtain ⟨bl, bm, FL, hh, hl, hm, rfl⟩ := h
  have c3 : w.cell? ⟨sb, 3, none⟩ = some (.map (some bm)) := hh.cell 3
  obtain ⟨v, hlk, ho⟩ := hm.lookup_some hk hx
  have hrb := OwnB.rb ho hx2
  have HX := Lib.hid hx
  clear hx
  go_enter Try.func26, Try.ntmps26
  go_wp2_with (go_at_call 47; refine (clone_calls _ _ _ hrb).mono ?_; rintro e w1 ⟨u, rfl, hou, hb⟩)
  go_ret2
  exact ⟨u, rfl, hou, hb⟩
theorem get_none (h : StoreAt w B sb bd s F) (key : ByteArray) (hk : key.size ≤ maxLen) (hx : getL s.L key = none) :
    Calls Try.prog 26 #[.pointer (some ⟨sb, 0, none⟩), .string key] w fun e w' => ∃ u, e = .returned (.tuple #[u, .bool false]) ∧ OwnB w' w.heap.size 5 u [] ∧ Below w.heap.size w w' := by
  obtain ⟨bl, bm, FL, hh, hl, hm, rfl⟩ := h
  have c3 : w.cell? ⟨sb, 3, none⟩ = some (.map (some bm)) := hh.cell 3
  have hlk := hm.lookup_none hk hx
  have HX := Lib.hid hx
  clear hx
  go_enter Try.func26, Try.ntmps26
  go_wp2_with (go_at_call 47; refine (clone_calls _ _ _ (RB.nil w)).mono ?_; rintro e w1 ⟨u, rfl, hou, hb⟩)
  go_ret2
  exact ⟨u, rfl, hou, hb⟩
end
end Go.Proofs.Ytmfjhejhbomlpaa
