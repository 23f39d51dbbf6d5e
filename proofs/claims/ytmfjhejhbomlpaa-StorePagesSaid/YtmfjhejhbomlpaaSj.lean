/- Bytes as changes: the walk that decodes a text. -/
import Derived.Test.YtmfjhejhbomlpaaSi
import Derived.Test.YtmfjhejhbomlpaaSe
set_option linter.unusedVariables false
set_option linter.unusedSimpArgs false
namespace Go.Proofs.Ytmfjhejhbomlpaa
open Go.RowKit

theorem piece_len {b x r : List UInt8} (h : pieceB b = some (x, r)) : x.length ≤ b.length ∧ r.length ≤ b.length := by
  unfold pieceB at h
  split at h
  · injection h with h
    injection h with h1 h2
    subst h1 h2
    simp only [List.length_drop, List.length_take]
    omega
  · cases h
theorem change_len {b r : List UInt8} {c : Chg} (h : changeB b = some (c, r)) : c.key.size ≤ b.length ∧ c.val.length ≤ b.length ∧ r.length ≤ b.length := by
  match b, h with
  | k :: b, h =>
    rw [changeB] at h
    split at h
    · cases h
    cases hp : pieceB b with
    | none => rw [hp] at h; cases h
    | some y =>
      obtain ⟨key, r1⟩ := y
      rw [hp] at h
      simp only at h
      have h1 := piece_len hp
      split at h
      · injection h with h
        injection h with h2 h3
        subst h2 h3
        simp only [toStr_size, List.length_cons, List.length_nil]
        omega
      · cases hp2 : pieceB r1 with
        | none => rw [hp2] at h; cases h
        | some y2 =>
          obtain ⟨val, r2⟩ := y2
          rw [hp2] at h
          simp only at h
          have h4 := piece_len hp2
          injection h with h
          injection h with h2 h3
          subst h2 h3
          simp only [toStr_size, List.length_cons]
          omega

theorem change_calls_some (w : World) (v : Value) (b r : List UInt8) (c : Chg) (h : RB w v b) (hp : changeB b = some (c, r)) :
    Calls Try.prog 55 #[v] w fun e w' => ∃ u rv, e = .returned (.tuple #[.agg #[.string c.key, .bool c.del, u], rv, .bool true]) ∧ OwnB w' w.heap.size 5 u c.val ∧ Hid (∀ W, RB W v b → RB W rv r) ∧ Below w.heap.size w w' := by
  match b, h, hp with
  | k :: b, h, hp =>
    rw [changeB] at hp
    by_cases hk : 1 < k.toNat
    · rw [if_pos hk] at hp; cases hp
    rw [if_neg hk] at hp
    cases hq : pieceB b with
    | none => rw [hq] at hp; cases hp
    | some y =>
      obtain ⟨key, r1⟩ := y
      rw [hq] at hp
      simp only at hp
      by_cases hk1 : k.toNat = 1
      · rw [if_pos hk1] at hp
        injection hp with hp
        injection hp with h2 h3
        subst h2 h3
        refine (change_del w v k b h hk1 key r1 hq).mono ?_
        rintro e w' ⟨rv, rfl, h1, h2⟩
        exact ⟨_, rv, rfl, Own.nil _ _ _, h1, h2⟩
      · rw [if_neg hk1] at hp
        cases hq2 : pieceB r1 with
        | none => rw [hq2] at hp; cases hp
        | some y2 =>
          obtain ⟨val, r2⟩ := y2
          rw [hq2] at hp
          simp only at hp
          injection hp with hp
          injection hp with h2 h3
          subst h2 h3
          exact change_put w v k b h (by omega) key r1 val r2 hq hq2
theorem change_calls_none (w : World) (v : Value) (b : List UInt8) (h : RB w v b) (hp : changeB b = none) :
    Calls Try.prog 55 #[v] w fun e w' => ∃ c0 c1 A n cc rv, e = .returned (.tuple #[.agg #[.string c0, .bool c1, .slice A n cc], rv, .bool false]) ∧ Below w.heap.size w w' := by
  match b, h, hp with
  | [], h, hp => exact change_no0 w v h
  | k :: b, h, hp =>
    rw [changeB] at hp
    by_cases hk : 1 < k.toNat
    · exact change_no1 w v k b h hk
    rw [if_neg hk] at hp
    cases hq : pieceB b with
    | none => exact change_no2 w v k b h hk hq
    | some y =>
      obtain ⟨key, r1⟩ := y
      rw [hq] at hp
      simp only at hp
      by_cases hk1 : k.toNat = 1
      · rw [if_pos hk1] at hp; cases hp
      · rw [if_neg hk1] at hp
        cases hq2 : pieceB r1 with
        | none => exact change_no3 w v k b h (by omega) key r1 hq hq2
        | some y2 => rw [hq2] at hp; cases hp

/-- Changes that a call owns. -/
def OwnCL (w : World) (B : Nat) (v : Value) (xs : List (Chg × Value)) : Prop := w.ownsRow B 81 3 v xs.length (xs.flatMap chc) ∧ ∀ x ∈ xs, OwnB w B 5 x.2 x.1.val
theorem chc_len (xs : List (Chg × Value)) : (xs.flatMap chc).length = xs.length * 3 := by
  induction xs with
  | nil => rfl
  | cons x xs ih => rw [List.flatMap_cons, List.length_append, ih, List.length_cons]; simp [chc]; omega
theorem OwnCL.nil (w : World) (B : Nat) : OwnCL w B (.slice none 0 0) [] := ⟨World.ownsRow_nil w B _ 3, by simp⟩
section
variable {w w' : World} {B : Nat} {v : Value} {xs : List (Chg × Value)}
theorem OwnCL.changed {S : Nat → Prop} (h : OwnCL w B v xs) (hc : Changed S w w') (h1 : NoTy w S 81) (h2 : NoTy w S 5) : OwnCL w' B v xs :=
  ⟨ownsRow_frame h.1 hc (fun k hk hs => h1 k hs (ownsRow_ty h.1 k hk)), fun x hx => (h.2 x hx).changed hc h2⟩
theorem OwnCL.below (h : OwnCL w B v xs) (hb : Below w.heap.size w w') : OwnCL w' B v xs := h.changed (Changed.of_below (S := fun _ => False) hb) (NoTy.none _ _) (NoTy.none _ _)
theorem OwnCL.low {B' : Nat} (h : OwnCL w B v xs) (hb : B' ≤ B) : OwnCL w B' v xs := by
  refine ⟨⟨h.1.1, ?_⟩, fun x hx => Own.low (h.2 x hx) hb⟩
  rcases h.1.2 with h0 | ⟨g, cap, cur, hv, hg, rest⟩
  · exact .inl h0
  · exact .inr ⟨g, cap, cur, hv, by omega, rest⟩
theorem OwnCL.away {S : Nat → Prop} (h : OwnCL w B v xs) (h1 : NoTy w S 81) (h2 : NoTy w S 5) : CLa v xs S :=
  ⟨fun k hk hs => h1 k hs (ownsRow_ty h.1 k hk), fun x hx k hk hs => h2 k hs (ownsRow_ty (h.2 x hx) k hk)⟩
theorem OwnCL.cl (h : OwnCL w B v xs) (hn : xs.length ≤ 1000000) (hx : ∀ x ∈ xs, x.1.key.size ≤ 1000000 ∧ x.1.val.length ≤ 140737488351232) : CL w v xs := by
  rcases h.1.2 with ⟨rfl, h0⟩ | ⟨g, cap, cur, rfl, hg, hh, hc, hm, _⟩
  · have hl : xs.length = 0 := h0
    have : xs = [] := List.eq_nil_of_length_eq_zero hl
    subst this
    exact ⟨none, 0, rfl, by simp, by simp, hn, Reads.none_, by simp⟩
  · exact ⟨_, cap, rfl, hc, hm, hn, Reads.of_own h.1, fun x hxm => ⟨OwnB.rb (h.2 x hxm) (hx x hxm).2, (hx x hxm).1⟩⟩
end

/-- So many changes off a text. -/
def decN : Nat → List UInt8 → List Chg → Option (List Chg × List UInt8)
  | 0, b, acc => some (acc, b)
  | n + 1, b, acc => match changeB b with
    | none => none
    | some (c, r) => decN n r (acc ++ [c])
/-- The changes that a text says. -/
def decFin : Option (List Chg × List UInt8) → Option (List Chg)
  | none => none
  | some (cs, rest) => if rest = [] ∧ checkG cs = 0 then some cs else none
def decB (b : List UInt8) : Option (List Chg) :=
  if (rdVar b 0 0).2.2 = 0 ∧ (rdVar b 0 0).1 ≤ 16 then decFin (decN (rdVar b 0 0).1 (b.drop (rdVar b 0 0).2.1) []) else none
theorem change_info : (Try.prog.info? 81).map (fun i => (i.zero, i.size, i.bytes)) = some (some (.agg #[.string ⟨#[]⟩, .bool false, .slice none 0 0]), 3, 48) := by kernel_rfl

theorem decode_bad (w : World) (v : Value) (b : List UInt8) (h : RB w v b) (hp : ¬ ((rdVar b 0 0).2.2 = 0 ∧ (rdVar b 0 0).1 ≤ 16)) :
    Calls Try.prog 31 #[v] w fun e w' => e = .returned (.tuple #[.slice none 0 0, .int .i64 4]) ∧ w = w' := by
  have hrv := readVar_calls v b w h
  have HRV := Lib.hid hrv
  obtain ⟨A, c, rfl, hc, hn, hm, hr⟩ := h
  unfold maxLen at hm
  generalize rdVar b 0 0 = t at *
  obtain ⟨x, n, e⟩ := t
  simp only at hp HRV
  clear hrv
  by_cases he : e = 0
  · subst he
    have h3 : (16 : Int) < (x : Int) := by omega
    clear hp
    go_enter Try.func31, Try.ntmps31
    go_wp2_with (go_at_call 54; refine HRV.out.mono ?_; rintro e w' ⟨rfl, rfl⟩)
    go_ret2
    exact ⟨rfl, rfl⟩
  · have hb : ((e : Int) != 0) = true := by rw [bne_iff_ne]; omega
    clear hp he
    go_enter Try.func31, Try.ntmps31
    go_wp2_with (go_at_call 54; refine HRV.out.mono ?_; rintro e w' ⟨rfl, rfl⟩)
    go_ret2
    exact ⟨rfl, rfl⟩

def DecPost (w : World) (b : List UInt8) (e : Ending) (w' : World) : Prop :=
  (∃ u xs, decB b = some (xs.map Prod.fst) ∧ e = .returned (.tuple #[u, .int .i64 0]) ∧ OwnCL w' w.heap.size u xs ∧ Below w.heap.size w w') ∨
  (decB b = none ∧ e = .returned (.tuple #[.slice none 0 0, .int .i64 4]) ∧ Below w.heap.size w w')

set_option maxRecDepth 100000 in
set_option maxHeartbeats 2000000 in
theorem decode_calls (w : World) (v : Value) (b : List UInt8) (h : RB w v b) (hbl : b.length ≤ 1000000) :
    Calls Try.prog 31 #[v] w (DecPost w b) := by
  by_cases hp : (rdVar b 0 0).2.2 = 0 ∧ (rdVar b 0 0).1 ≤ 16
  case neg =>
    refine (decode_bad w v b h hp).mono ?_
    rintro e w' ⟨rfl, rfl⟩
    exact .inr ⟨by unfold decB; rw [if_neg hp], rfl, Below.refl _ _⟩
  have hrv := readVar_calls v b w h
  have hrl := (rd_len b 0 0 hp.1).2
  have hrl1 := (rd_len b 0 0 hp.1).1
  obtain ⟨R, hR⟩ : ∃ R, decN (rdVar b 0 0).1 (b.drop (rdVar b 0 0).2.1) [] = R := ⟨_, rfl⟩
  have hdec : decB b = decFin R := by
    unfold decB
    rw [if_pos hp, hR]
  have hrb := h
  obtain ⟨A, c, rfl, hc, hn, hm, hr⟩ := h
  unfold maxLen at hm
  generalize rdVar b 0 0 = t at *
  obtain ⟨n0, n, e⟩ := t
  simp only at hp hrv hrl hrl1 hR
  obtain ⟨rfl, hn16⟩ := hp
  rw [Nat.zero_add] at hrl
  have hdr := RB.drop (k := n) hrb hrl
  obtain ⟨ad, rfl, _⟩ := hr.2 (by omega)
  simp only [Option.map_some] at hdr
  have HRV := Lib.hid hrv
  have HDR := Lib.hid hdr
  have HDEC := Lib.hid hdec
  have HR := Lib.hid hR
  have hcap : c = n ∨ c ≠ n := by omega
  clear hrv hdr hdec hR hrb hr
  go_enter Try.func31, Try.ntmps31
  go_upto_region 5 with (go_at_call 54; refine HRV.out.mono ?_; rintro e w' ⟨rfl, rfl⟩)
  go_cut [0] (fun bv wx => wx = w ∧ RB w bv (b.drop n))
  case first =>
    rcases hcap with hcn | hcn
    · subst hcn
      go_wp2_with fail
      go_meet
      refine ⟨rfl, ?_⟩
      have g := HDR.out
      simp only [if_true, Nat.sub_self] at g
      rw [show b.length - c = 0 by omega] at g
      exact g
    · go_wp2_with fail
      go_meet
      refine ⟨rfl, ?_⟩
      have g := HDR.out
      rw [if_neg hcn] at g
      exact g
  case rest =>
    obtain ⟨rfl, hbv⟩ := hcut
    clear hcap HDR
    go_wp2_with fail
    go_loopw [27, 0, 7] (fun i bv lv wr => ∃ (k : Nat) (xs : List (Chg × Value)) (rk : List UInt8), k ≤ n0 ∧ i = .int .u64 (k : Int) ∧ Hid (xs.length = k) ∧ RB wc bv rk ∧ rk.length ≤ b.length ∧ OwnCL wr wc.heap.size lv xs ∧ Hid (decN (n0 - k) rk (xs.map Prod.fst) = R) ∧ Hid (∀ x ∈ xs, x.1.key.size ≤ b.length ∧ x.1.val.length ≤ b.length) ∧ Below wc.heap.size wc wr) (fun i _ _ _ => n0 - (intOf i).toNat)
    case atStart => exact ⟨0, [], b.drop n, Nat.zero_le _, rfl, Lib.hid rfl, hbv, by rw [List.length_drop]; omega, OwnCL.nil _ _, HR, Lib.hid (by simp), Below.refl _ _⟩
    case round =>
      obtain ⟨k, xs, rk, hk, rfl, HL, hrk, hrkl, hown, HN, HS, hb⟩ := hrel
      clear hbv
      by_cases hlt : k < n0
      · have hn := HN.out
        rw [show n0 - k = (n0 - (k + 1)) + 1 by omega, decN] at hn
        have hrkc := hrk
        have hrk0 := hrk.below hb
        obtain ⟨bA, bc, rfl, hbc, hbn, hbm, hbr⟩ := hrk
        cases hch : changeB rk with
        | none =>
          rw [hch] at hn
          have hfin : decB b = none := by rw [HDEC.out, ← hn]; rfl
          have HF := Lib.hid hfin
          have HCH := Lib.hid hch
          clear hn hfin hch
          go_wp2_with (go_at_call 55; refine (change_calls_none _ _ _ hrk0 HCH.out).mono ?_; rintro e w1 ⟨c0, c1, cA, cn, cc, rv, rfl, hb1⟩)
          go_ret2
          exact .inr ⟨HF.out, rfl, (Below.step hb hb.size hb1).alloc (Nat.le_trans hb.size hb1.size) _⟩
        | some y =>
          obtain ⟨x, r⟩ := y
          rw [hch] at hn
          simp only at hn
          have hcl := change_len hch
          have HN' := Lib.hid hn
          have HCH := Lib.hid hch
          clear hn hch HN
          go_upto_region 11 with (go_at_call 55; refine (change_calls_some _ _ _ _ _ hrk0 HCH.out).mono ?_; rintro e w1 ⟨u, rv, rfl, hou, hrv, hb1⟩; obtain ⟨uA, uc, hue, _⟩ := Own.slice hou; subst hue)
          have hbx := Blk.new w1 81 #[.string x.key, .bool x.del, .slice uA (bs x.val).length uc]
          have hown1 := (hown.below hb1).below ((Below.refl _ w1).alloc (Nat.le_refl _) (.cells #[.string x.key, .bool x.del, .slice uA (bs x.val).length uc] 81))
          have hou1 : OwnB (w1.alloc (.cells #[.string x.key, .bool x.del, .slice uA (bs x.val).length uc] 81)) wc.heap.size 5 (.slice uA (bs x.val).length uc) x.val := Own.low (Own.alloc' hou _) hb.size
          have hrv1 := hrv.out wc hrkc
          obtain ⟨rA, rc, hrve, _⟩ := id hrv1
          subst hrve
          have hbw1 := (Below.step hb hb.size hb1).alloc (Nat.le_trans hb.size hb1.size) (.cells #[.string x.key, .bool x.del, .slice uA (bs x.val).length uc] 81)
          have hxl : xs.length ≤ 16 := by have := HL.out; omega
          obtain ⟨lA, lc, hlv, hlc⟩ : ∃ A c, u7 = .slice A xs.length c ∧ xs.length ≤ c := by
            rcases hown.1.2 with ⟨rfl, h0⟩ | ⟨g, cap, cur, hv, _, _, hc, _⟩
            · exact ⟨none, 0, by rw [h0], by omega⟩
            · exact ⟨_, _, hv, hc⟩
          subst hlv
          clear hou hrv hown hb hb1
          generalize hW2 : w1.alloc (.cells #[.string x.key, .bool x.del, .slice uA (bs x.val).length uc] 81) = w2 at *
          clear hW2
          have e0 : w2.cell? ⟨w1.heap.size, 0, none⟩ = some (.string x.key) := hbx.cell 0
          have e1 : w2.cell? ⟨w1.heap.size, 1, none⟩ = some (.bool x.del) := hbx.cell 1
          have e2 : w2.cell? ⟨w1.heap.size, 2, none⟩ = some (.slice uA (bs x.val).length uc) := hbx.cell 2
          go_wp2_with (at_builtin; refine wpList_appendS (w0 := wc) (W := w2) rfl (.tmp 37) (.tmp 39) 34 81 _ 3 48 rfl Try.underlying34 change_info rfl (by omega) (by omega) (.slice lA xs.length lc) xs.length (xs.flatMap chc) [.string x.key, .bool x.del, .slice uA (bs x.val).length uc] rfl rfl (by simp [Value.oneCell']) rfl hown1.1 hbw1 hbw1.size (by omega) ?_; intro v3 w3 hown3 hb3 hg3 hat3)
          go_roundw
          case rel =>
            have hc3 := Changed.grown hg3
            refine ⟨k + 1, xs ++ [(x, .slice uA (bs x.val).length uc)], r, by omega, by go_num, Lib.hid (by rw [List.length_append, HL.out]; rfl), hrv1, by omega, ⟨?_, fun y hy => ?_⟩, Lib.hid (by rw [List.map_append]; exact HN'.out), Lib.hid (fun y hy => ?_), hb3⟩
            · rw [List.length_append, List.flatMap_append]
              simpa [chc] using hown3
            · have hnt : NoTy w2 (fun j => some j = (Value.slice lA xs.length lc).ownBlock) 5 := fun j hj ht => absurd ((ownsRow_ty hown1.1 j hj.symm).uniq ht) (by decide)
              rcases List.mem_append.1 hy with hy | hy
              · exact (hown1.2 y hy).changed hc3 hnt
              · rw [List.mem_singleton.1 hy]
                exact OwnB.changed hou1 hc3 hnt
            · rcases List.mem_append.1 hy with hy | hy
              · exact HS.out y hy
              · rw [List.mem_singleton.1 hy]
                exact ⟨show x.key.size ≤ b.length by omega, show x.val.length ≤ b.length by omega⟩
          case measure => simp [intOf]; omega
      · obtain rfl : k = n0 := by omega
        have hn := HN.out
        rw [Nat.sub_self, decN] at hn
        obtain ⟨bA, bc, rfl, hbc, hbn, hbm, hbr⟩ := hrk
        by_cases hr0 : rk.length = 0
        · have hrk0 : rk = [] := List.eq_nil_of_length_eq_zero hr0
          have hdec : decB b = if checkG (xs.map Prod.fst) = 0 then some (xs.map Prod.fst) else none := by
            rw [HDEC.out, ← hn]
            simp [decFin, hrk0]
          have hcl : CL wr u7 xs := hown.cl (by have := HL.out; omega) (fun x hx => by have := HS.out x hx; omega)
          have hck := check_calls wr u7 xs hcl
          have HCK := Lib.hid hck
          have hg0 : ¬ (0 : Int) < (rk.length : Int) := by omega
          rcases Nat.eq_zero_or_pos (checkG (xs.map Prod.fst)) with hz | hz
          · rw [if_pos hz] at hdec
            have HD := Lib.hid hdec
            have HZ := Lib.hid hz
            clear hdec hz hck hn hrk0
            go_wp2_with (go_at_call 56; refine HCK.out.mono ?_; rintro e w1 ⟨rfl, hb1⟩; rw [HZ.out])
            go_ret2
            exact .inl ⟨u7, xs, HD.out, rfl, hown.below hb1, Below.step hb hb.size hb1⟩
          · rw [if_neg (by omega)] at hdec
            have HD := Lib.hid hdec
            have hzb : ((checkG (xs.map Prod.fst) : Int) != 0) = true := by rw [bne_iff_ne]; omega
            clear hdec hck hn hrk0
            go_wp2_with (go_at_call 56; refine HCK.out.mono ?_; rintro e w1 ⟨rfl, hb1⟩)
            go_ret2
            exact .inr ⟨HD.out, rfl, Below.step hb hb.size hb1⟩
        · have hdec : decB b = none := by
            rw [HDEC.out, ← hn]
            exact if_neg (fun h => hr0 (by rw [h.1]; rfl))
          have HD := Lib.hid hdec
          have hg0 : (0 : Int) < (rk.length : Int) := by omega
          clear hdec hn
          go_wp2
          go_ret2
          exact .inr ⟨HD.out, rfl, hb⟩
end Go.Proofs.Ytmfjhejhbomlpaa
