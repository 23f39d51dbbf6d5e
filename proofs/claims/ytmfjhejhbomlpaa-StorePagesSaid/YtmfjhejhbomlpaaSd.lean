/- A map from keys to bytes in memory; the store's cost of a key. -/
import Derived.Test.YtmfjhejhbomlpaaPa
import Derived.Test.YtmfjhejhbomlpaaDj
import Derived.Maps.OwnSet
import Derived.Maps.OwnOps
import Derived.Maps.Views
import Derived.StringKeys
set_option linter.unusedVariables false
set_option linter.unusedSimpArgs false
namespace Go.Proofs.Ytmfjhejhbomlpaa
open Go.RowKit

/-- An element as it lies: a value. -/
def rawE (v : Value) : Option (DataW Value × List MemPlace) := some (.held v, [])
theorem keyed9 : Maps.Keyed Try.prog 9 := Maps.string_keyed Try.underlying9
def kl (k : ByteArray) : Lit := .string k.data.toList
theorem kl_inj {a b : ByteArray} (h : kl a = kl b) : a = b := by
  unfold kl at h
  injection h with h
  exact ByteArray.ext (Array.ext' h)
theorem kl_key (k : ByteArray) (h : k.size ≤ maxLen) : keyOf Try.prog 9 (.string k) = some (kl k) := WideMaps.keyOf_string_mk Try.underlying9 h
theorem kl_lit (k : ByteArray) : WideAt.IsKeyLit (kl k) := trivial

/-- What stands at a key. -/
def AtV (D : DataW Value) (w : World) (B : Nat) (key : ByteArray) : Option (List UInt8) → Prop
  | none => D.atKey (kl key) .nil = .nil
  | some x => ∃ v, D.atKey (kl key) .nil = .held v ∧ OwnB w B 5 v x
theorem AtV.changed {D : DataW Value} {w w' : World} {B : Nat} {key : ByteArray} {S : Nat → Prop} : ∀ {o : Option (List UInt8)}, AtV D w B key o → Changed S w w' → NoTy w S 5 → AtV D w' B key o
  | none, h, _, _ => h
  | some x, ⟨v, hv, ho⟩, hc, hn => ⟨v, hv, ho.changed hc hn⟩
theorem AtV.other {D D' : DataW Value} {w : World} {B : Nat} {key : ByteArray} (e : D'.atKey (kl key) .nil = D.atKey (kl key) .nil) : ∀ {o : Option (List UInt8)}, AtV D w B key o → AtV D' w B key o
  | none, h => e.trans h
  | some x, ⟨v, hv, ho⟩ => ⟨v, e.trans hv, ho⟩
/-- Block bm is a map of at most n entries that holds these pairs. -/
def MapB (w : World) (B bm n : Nat) (L : List Pr) : Prop :=
  ∃ D : DataW Value, w.ownsMap Try.prog 9 rawE bm n D ∧ Maps.IsMap D ∧ ∀ key : ByteArray, AtV D w B key (getL L key)
section
variable {w w' : World} {B bm n : Nat} {L : List Pr}
theorem MapB.lt (h : MapB w B bm n L) : bm < w.heap.size := by
  obtain ⟨D, h1, _⟩ := h
  exact h1.lt
theorem MapB.changed {S : Nat → Prop} (h : MapB w B bm n L) (hc : Changed S w w') (hn : NoTy w S 5) (hb : ¬ S bm) : MapB w' B bm n L := by
  obtain ⟨D, h1, h2, h3⟩ := h
  have hlt := h1.lt
  refine ⟨D, ?_, h2, fun key => (h3 key).changed hc hn⟩
  obtain ⟨es, clock, he, rest⟩ := h1
  exact ⟨es, clock, (hc.block bm hlt hb).trans he, rest⟩
theorem MapB.below (h : MapB w B bm n L) (hb : Below w.heap.size w w') : MapB w' B bm n L := h.changed (Changed.of_below (S := fun _ => False) hb) (NoTy.none _ _) (fun h => h)
theorem MapB.drew (h : MapB w B bm n L) : MapB w.drew B bm n L := h.changed ((Changed.refl (fun _ => False) _).drew) (NoTy.none _ _) (fun h => h)
theorem MapB.drewN (h : MapB w B bm n L) (k : Nat) : MapB (w.drewN k) B bm n L := h.changed ((Changed.refl (fun _ => False) _).drewN k) (NoTy.none _ _) (fun h => h)
theorem MapB.mono (h : MapB w B bm n L) {m : Nat} (hm : n ≤ m) : MapB w B bm m L := by
  obtain ⟨D, h1, h2, h3⟩ := h
  exact ⟨D, h1.mono hm, h2, h3⟩
theorem MapB.made (w : World) (B : Nat) : MapB (w.alloc (.map #[] 0)) B w.heap.size 0 [] := ⟨_, World.ownsMap_made w _ _ _, ⟨_, rfl⟩, fun key => rfl⟩
/-- What no cells block is has no type. -/
theorem MapB.noTy (h : MapB w B bm n L) (t : TypeId) : ¬ Ty w t bm := by
  obtain ⟨D, ⟨es, clock, he, _⟩, _⟩ := h
  rintro ⟨cs, fr, hc⟩
  rw [he] at hc
  cases hc
theorem MapB.noTyS (h : MapB w B bm n L) (t : TypeId) : NoTy w (· = bm) t := fun k hk => by subst hk; exact h.noTy t
end

theorem zero41 (w : World) : (zeroValue 41).run Try.prog w = .ok (.slice none 0 0) w := by kernel_rfl

section
variable {w w' : World} {B bm n : Nat} {L : List Pr}
/-- 'v, ok := m[key]'. -/
theorem MapB.lookup_some (h : MapB w B bm n L) {key : ByteArray} (hk : key.size ≤ maxLen) {x : List UInt8} (hx : getL L key = some x) :
    ∃ v, (Instr.lookup 65 (.map (some bm)) (.string key) true).run Try.prog w = .ok (.tuple #[v, .bool true]) w ∧ OwnB w B 5 v x := by
  obtain ⟨D, ⟨es, clock, hb, F, hs, rfl⟩, h2, h3⟩ := h
  have hat := h3 key
  rw [hx] at hat
  obtain ⟨v, hv, ho⟩ := hat
  rcases Maps.fit_look true keyed9 Try.underlying65 (zero41 w) hb F (kl_key key hk) with ⟨_, _, ha⟩ | ⟨e0, y, _, _, hrun, hR, ha, _⟩
  · rw [ha] at hv
    cases hv
  · unfold rawE at hR
    injection hR with hR
    subst hR
    have h9 := (ha .nil).symm.trans hv
    injection h9 with h9
    rw [h9] at hrun
    exact ⟨v, hrun, ho⟩
theorem MapB.lookup_none (h : MapB w B bm n L) {key : ByteArray} (hk : key.size ≤ maxLen) (hx : getL L key = none) :
    (Instr.lookup 65 (.map (some bm)) (.string key) true).run Try.prog w = .ok (.tuple #[.slice none 0 0, .bool false]) w := by
  obtain ⟨D, ⟨es, clock, hb, F, hs, rfl⟩, h2, h3⟩ := h
  have hat := h3 key
  rw [hx] at hat
  replace hat : (DataW.map ((es.toList.map (WideElems.rg Try.prog 9 rawE)).foldr DataW.insert [])).atKey (kl key) .nil = DataW.nil := hat
  rcases Maps.fit_look true keyed9 Try.underlying65 (zero41 w) hb F (kl_key key hk) with ⟨hrun, _⟩ | ⟨e0, y, _, _, hrun, hR, ha, _⟩
  · exact hrun
  · have hy : y = (DataW.held e0.val, []) := (Option.some.inj hR).symm
    have h9 := (ha .nil).symm.trans hat
    rw [hy] at h9
    exact absurd h9 (by simp)
/-- 'm[key] = v'. -/
theorem MapB.store (h : MapB w B bm n L) (hs : SortedL L) (hn : n < maxLen) {c : Chg} (hk : c.key.size ≤ maxLen) (hd : c.del = false) {v : Value} (hv : OwnB w B 5 v c.val) :
    ∃ w', (Instr.mapUpdate 65 (.map (some bm)) (.string c.key) v).run Try.prog w = .ok () w' ∧ MapB w' B bm (n + 1) (ins c L) ∧ Changed (· = bm) w w' := by
  obtain ⟨D, h1, h2, h3⟩ := h
  have hty : NoTy w (· = bm) 5 := MapB.noTyS ⟨D, h1, h2, h3⟩ _
  obtain ⟨w1, hrun, hown, hg⟩ := h1.update keyed9 Try.underlying65 hn (kl_key c.key hk) (d := .held v) (ps := []) rfl
  have hc : Changed (· = bm) w w1 := (Changed.grown hg).mono fun k hk => .inl (by injection hk)
  refine ⟨w1, hrun, ⟨_, hown, h2.put _ _, fun key => ?_⟩, hc⟩
  rw [getL_ins c L hs key]
  by_cases hkey : key = c.key
  · subst hkey
    rw [if_pos rfl, hd]
    exact ⟨v, Maps.atKey_put_same h2 (kl_lit _) _ _, hv.changed hc hty⟩
  · rw [if_neg hkey]
    exact AtV.other (Maps.atKey_put_other (fun e => hkey (kl_inj e)) _ _) ((h3 key).changed hc hty)
/-- 'delete(m, key)'. -/
theorem MapB.delete (h : MapB w B bm n L) (hs : SortedL L) {c : Chg} (hk : c.key.size ≤ maxLen) (hd : c.del = true) (ty : TypeId) :
    ∃ w', (Builtin.delete_ #[65, 9] ty #[.map (some bm), .string c.key]).run Try.prog w = .ok (.tuple #[]) w' ∧ MapB w' B bm n (ins c L) ∧ Changed (· = bm) w w' := by
  obtain ⟨D, h1, h2, h3⟩ := h
  have hty : NoTy w (· = bm) 5 := MapB.noTyS ⟨D, h1, h2, h3⟩ _
  obtain ⟨w1, hrun, hown, ht⟩ := h1.drop keyed9 Try.underlying65 (kl_key c.key hk) ty
  have hc : Changed (· = bm) w w1 := (Changed.grown ht.grown).mono fun k hk => .inl (by injection hk)
  refine ⟨w1, hrun, ⟨_, hown, h2.del _, fun key => ?_⟩, hc⟩
  rw [getL_ins c L hs key]
  by_cases hkey : key = c.key
  · subst hkey
    rw [if_pos rfl, hd]
    exact Maps.atKey_del_same _
  · rw [if_neg hkey]
    exact AtV.other (Maps.atKey_del_other (fun e => hkey (kl_inj e)) _) ((h3 key).changed hc hty)
end

section
variable {P : Program} {w : World} {o : Oper} {a : Act} {K : Act → World → Prop} {Q : Exit → Act → World → Prop}
theorem wp_mapUpdate {B bm n : Nat} {L : List Pr} (m x v : Operand) (hop : o.op = Op.mapUpdate 65 m x v) (hm : a.eval m = .map (some bm)) (h : MapB w B bm n L) (hs : SortedL L) (hn : n < maxLen) (c : Chg) (hk : c.key.size ≤ maxLen) (hd : c.del = false)
    (val : Value) (hx : a.eval x = .string c.key) (hv : a.eval v = val) (ho : OwnB w B 5 val c.val)
    (hK : ∀ w', MapB w' B bm (n + 1) (ins c L) → Changed (· = bm) w w' → K (a.put o.dst undef) w') : Oper.wp Try.prog o a w K Q := by
  obtain ⟨w', hrun, r1, r2⟩ := h.store hs hn hk hd ho
  unfold Oper.wp
  simp [execOp, hop, hm, hx, hv, hrun, Result.andThen]
  exact hK w' r1 r2
theorem wp_mapDelete {B bm n : Nat} {L : List Pr} (m x : Operand) (hop : o.op = Op.call { callee := Callee.builtin Builtin.delete, args := #[m, x], argTypes := #[65, 9] }) (hm : a.eval m = .map (some bm)) (h : MapB w B bm n L) (hs : SortedL L) (c : Chg) (hk : c.key.size ≤ maxLen) (hd : c.del = true)
    (hx : a.eval x = .string c.key)
    (hK : ∀ w', MapB w' B bm n (ins c L) → Changed (· = bm) w w' → K (a.put o.dst (.tuple #[])) w') : Oper.wp Try.prog o a w K Q := by
  obtain ⟨w', hrun, r1, r2⟩ := h.delete hs hk hd o.type
  unfold Oper.wp
  simp [execOp, hop, resolve, invoke, builtin, hm, hx, hrun, Result.andThen]
  exact hK w' r1 r2
end

/-- A store's cells behind a pointer to block sb. -/
def stC (bl bm : Nat) (q used : Int) : Array Value := #[.pointer (some ⟨bl, 0, none⟩), .int .i64 q, .int .i64 used, .map (some bm)]

theorem cost_calls (w : World) {B sb bl bm n : Nat} {q used : Int} {L : List Pr} (hh : Blk w sb 67 (stC bl bm q used)) (hm : MapB w B bm n L) (hL : bytesL L ≤ 140737488355328) (key : ByteArray) (hk : key.size ≤ 140737488355328) :
    Calls Try.prog 34 #[.pointer (some ⟨sb, 0, none⟩), .string key] w fun e w' => e = .returned (.int .i64 (costL L key : Int)) ∧ w = w' := by
  have c3 : w.cell? ⟨sb, 3, none⟩ = some (.map (some bm)) := hh.cell 3
  have hkm : key.size ≤ maxLen := by unfold maxLen; omega
  cases hx : getL L key with
  | none =>
    have hcl := costL_none hx
    have hlk := hm.lookup_none hkm hx
    have HC := Lib.hid hcl
    clear hcl hx
    go_enter Try.func34, Try.ntmps34
    go_wp2
    go_ret
    exact ⟨by rw [HC.out]; rfl, rfl⟩
  | some x =>
    have hcl := costL_some hx
    have hle := costL_le L key
    rw [hcl] at hle
    obtain ⟨v, hlk, ho⟩ := hm.lookup_some hkm hx
    obtain ⟨A, c, hv, hc⟩ := Own.slice ho
    rw [bs_length] at hv hc
    subst hv
    have HC := Lib.hid hcl
    clear hcl hx
    go_enter Try.func34, Try.ntmps34
    go_wp2
    go_ret
    exact ⟨by rw [HC.out]; exact ret_int (by omega), rfl⟩
end Go.Proofs.Ytmfjhejhbomlpaa
