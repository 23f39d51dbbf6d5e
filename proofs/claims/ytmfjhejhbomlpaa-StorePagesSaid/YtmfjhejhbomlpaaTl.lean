/- What a store on a disk whose power stays on comes to; pages of a sorted list. A store at rest in memory, walked: commit, all, scan. -/
import Derived.Test.YtmfjhejhbomlpaaPb
import Derived.Test.YtmfjhejhbomlpaaTe
import Derived.Test.YtmfjhejhbomlpaaSm
import Derived.Test.YtmfjhejhbomlpaaTk
set_option linter.unusedVariables false
set_option linter.unusedSimpArgs false
namespace Go.Proofs.Ytmfjhejhbomlpaa

theorem calm_len {D : DM} (h : D.calm) : ∀ (next : Nat) (f : List UInt8) (m : Nat), (layW next f m D).1.now.length = D.now.length := by
  intro next f m
  induction m generalizing D with
  | zero => rfl
  | succ m ih =>
    rw [layW, calm_write h, if_pos rfl, ih (calm_put h _ _)]
    simp [DM.putW]
theorem calm_end (next : Nat) (f : List UInt8) {D : DM} (h : D.calm) : (layEnd next f D).1.now.length = D.now.length ∧ (layEnd next f D).1.opn = [] := by
  unfold layEnd
  rw [calm_write h, if_pos rfl, calm_sync (calm_put h _ _)]
  simp [DM.sync, DM.putW]
theorem calm_laid (next : Nat) (f : List UInt8) {D : DM} (h : D.calm) : (layG next f D).1.now.length = D.now.length ∧ (layG next f D).1.opn = [] := by
  unfold layG
  obtain ⟨h1, h2⟩ := calm_layW next f (spanN f.length - 1) D h
  have h3 := calm_len h next f (spanN f.length - 1)
  rw [if_pos h1]
  unfold layMid
  split
  · rw [calm_sync h2, if_pos rfl]
    obtain ⟨h4, h5⟩ := calm_end next f (calm_synced h2)
    exact ⟨h4.trans (by simpa [DM.sync] using h3), h5⟩
  · obtain ⟨h4, h5⟩ := calm_end next f h2
    exact ⟨h4.trans h3, h5⟩

/-- A store at rest: its power stays on. -/
structure SM.calm (s : SM) (n : Nat) : Prop where
  ok : s.ok
  disk : s.log.D.calm
  live : s.log.dead = false
  opn : s.log.D.opn = []
  len : s.log.D.now.length = n
  keys : ∀ p ∈ s.L, 1 ≤ p.1.size
theorem fresh_calm (n : Nat) (q : Int) : (freshS n q).calm n := ⟨fresh_ok n q, calm_new n, rfl, rfl, by simp [freshS, DM.new], by simp [freshS]⟩
theorem doneL_mem : ∀ (cs : List Chg) {L : List Pr} {p : Pr}, p ∈ doneL L cs → p ∈ L ∨ ∃ c ∈ cs, p.1 = c.key
  | [], L, p, h => .inl h
  | c :: r, L, p, h => by
    rcases doneL_mem r (L := ins c L) h with h | ⟨d, hd, e⟩
    · rcases mem_ins h with h | h
      · exact .inl h
      · exact .inr ⟨c, by simp, mem_new h⟩
    · exact .inr ⟨d, by simp [hd], e⟩
theorem calm_commit {s : SM} {n : Nat} (h : s.calm n) (cs : List Chg) :
    ((s.commit cs).2 = 0 ∧ (s.commit cs).1.calm n ∧ (s.commit cs).1.L = doneL s.L cs ∧ (s.commit cs).1.q = s.q ∧ ¬ (s.q < (bytesL (doneL s.L cs) : Int) ∧ bytesL s.L < bytesL (doneL s.L cs))) ∨ ((s.commit cs).2 ≠ 0 ∧ (s.commit cs).1 = s) := by
  unfold SM.commit
  by_cases h0 : checkG cs ≠ 0
  · rw [if_pos h0]; exact .inr ⟨h0, rfl⟩
  rw [if_neg h0]
  have hg := check_good (Decidable.not_not.1 h0)
  split
  · exact .inr ⟨by simp, rfl⟩
  next hq =>
  have e : s.log.append (encB cs) = if 16384 < (encB cs).length then (s.log, 5) else if s.log.D.now.length < s.log.next + spanN ((encB cs).length + 20) then (s.log, 11) else (⟨s.log.T ++ [encB cs], s.log.next + spanN ((encB cs).length + 20), false, (layG s.log.next (frameB (s.log.T.length + 1) (encB cs)) s.log.D).1⟩, 0) := by
    unfold LM.append
    rw [h.live, if_neg (by decide)]
    split
    · rfl
    · split
      · rfl
      · rw [if_pos (calm_lay _ _ h.disk).1]
  rw [e]
  split
  · exact .inr ⟨by simp, by simp⟩
  next h1 =>
  split
  · exact .inr ⟨by simp, by simp⟩
  next h2 =>
  left
  obtain ⟨h3, h4⟩ := calm_laid s.log.next (frameB (s.log.T.length + 1) (encB cs)) h.disk
  have h5 := (calm_lay s.log.next (frameB (s.log.T.length + 1) (encB cs)) h.disk).2
  have hb := bytes_done cs s.L h.ok.sorted (fun c hc => by have := (namedB_len (hg.key c hc)).2; rwa [str_length] at this) (fun c hc => hg.val c hc)
  refine ⟨by simp, ⟨⟨⟨?_, ?_, ?_, ?_⟩, ?_, ?_⟩, h5, rfl, h4, h3.trans h.len, ?_⟩, rfl, rfl, hq⟩
  · show s.log.next + spanN ((encB cs).length + 20) = nxt (s.log.T ++ [encB cs])
    rw [nxt_snoc, h.ok.log.next]
  · show s.log.next + spanN ((encB cs).length + 20) ≤ (layG s.log.next (frameB (s.log.T.length + 1) (encB cs)) s.log.D).1.now.length
    rw [h3]; omega
  · show (layG s.log.next (frameB (s.log.T.length + 1) (encB cs)) s.log.D).1.opn.length ≤ 900000
    rw [h4]; simp
  · intro t ht
    rcases List.mem_append.1 ht with ht | ht
    · exact h.ok.log.text t ht
    · rw [List.mem_singleton.1 ht]; omega
  · exact sorted_done cs s.L h.ok.sorted
  · show bytesL (doneL s.L cs) ≤ 66176 * (s.log.T ++ [encB cs]).length
    have := h.ok.bytes
    have := hg.max
    rw [List.length_append, List.length_singleton]
    omega
  · intro p hp
    rcases doneL_mem cs hp with hp | ⟨c, hc, e⟩
    · exact h.keys p hp
    · have := (namedB_len (hg.key c hc)).1
      rw [str_length] at this
      rw [e]; exact this

/-! Pages. -/
theorem scanS_yes {front after : ByteArray} {most : Int} {out : List Pr} {p : Pr} (h : (decide ((out.length : Int) < most) && scanP front after p) = true) : scanS front after most out p = out ++ [p] := if_pos h
theorem scanS_no {front after : ByteArray} {most : Int} {out : List Pr} {p : Pr} (h : ¬ (decide ((out.length : Int) < most) && scanP front after p) = true) : scanS front after most out p = out := if_neg h
theorem scanL_take (front after : ByteArray) (m : Nat) (L : List Pr) : scanL front after (m : Int) L = (L.filter (scanP front after)).take m := by
  have h : ∀ (L out : List Pr), out.length ≤ m → L.foldl (scanS front after (m : Int)) out = out ++ (L.filter (scanP front after)).take (m - out.length) := by
    intro L
    induction L with
    | nil => intro out _; simp
    | cons p r ih =>
      intro out ho
      rw [List.foldl_cons]
      cases hp : scanP front after p with
      | false =>
        rw [scanS_no (by rw [hp]; simp)]
        rw [List.filter_cons, hp, if_neg (by decide)]
        exact ih out ho
      | true =>
        rw [List.filter_cons, hp, if_pos rfl]
        by_cases hlt : out.length < m
        · rw [scanS_yes (by rw [hp]; simp; exact hlt)]
          rw [ih (out ++ [p]) (by simp; omega), List.append_assoc]
          congr 1
          rw [List.length_append, List.length_singleton]
          rw [show m - out.length = (m - (out.length + 1)) + 1 by omega, List.take_succ_cons]
          rfl
        · rw [scanS_no (by rw [hp]; simp; omega)]
          rw [ih out ho, show m - out.length = 0 by omega]
          simp
  have := h L [] (Nat.zero_le _)
  simpa [scanL] using this
theorem scanL_none (front after : ByteArray) (most : Int) (hm : most ≤ 0) : ∀ (L : List Pr), scanL front after most L = [] := by
  intro L
  unfold scanL
  induction L with
  | nil => rfl
  | cons p r ih =>
    rw [List.foldl_cons]
    have : scanS front after most [] p = [] := by
      unfold scanS
      rw [if_neg]
      simp
      intro h
      omega
    rw [this]
    exact ih
theorem filter_after : ∀ (G : List Pr), SortedL G → ∀ (i : Nat) (hi : i < G.length), G.filter (fun x => ltK G[i].1 x.1) = G.drop (i + 1)
  | q :: r, h, 0, _ => by
    obtain ⟨h1, h2⟩ := sorted_cons.1 h
    rw [List.filter_cons]
    simp only [List.getElem_cons_zero, ltK_irrefl, List.drop_succ_cons, List.drop_zero]
    rw [if_neg (by decide)]
    exact List.filter_eq_self.2 h1
  | q :: r, h, i + 1, hi => by
    obtain ⟨h1, h2⟩ := sorted_cons.1 h
    have hi' : i < r.length := by simpa using hi
    rw [List.filter_cons]
    simp only [List.getElem_cons_succ, List.drop_succ_cons]
    rw [ltK_asymm (h1 _ (List.getElem_mem hi')), if_neg (by decide)]
    exact filter_after r h2 i hi'
theorem sorted_filter {L : List Pr} (p : Pr → Bool) (h : SortedL L) : SortedL (L.filter p) := List.Pairwise.filter p h
/-- Behind a page whose last key is k come those behind it. -/
theorem page_next {L : List Pr} (hs : SortedL L) (front after : ByteArray) (i : Nat) (hi : i < (L.filter (scanP front after)).length) :
    ltK after (L.filter (scanP front after))[i].1 = true ∧ L.filter (scanP front (L.filter (scanP front after))[i].1) = (L.filter (scanP front after)).drop (i + 1) := by
  have hm := List.getElem_mem hi
  have h1 : ltK after (L.filter (scanP front after))[i].1 = true := by
    have := (List.mem_filter.1 hm).2
    unfold scanP at this
    simp only [Bool.and_eq_true] at this
    exact this.2
  refine ⟨h1, ?_⟩
  rw [← filter_after _ (sorted_filter _ hs) i hi, List.filter_filter]
  generalize (L.filter (scanP front after))[i].1 = b at h1
  refine List.filter_congr fun x hx => ?_
  unfold scanP
  cases h2 : ltK b x.1 with
  | false => simp
  | true =>
    have := ltK_trans h1 h2
    simp [this]
end Go.Proofs.Ytmfjhejhbomlpaa
set_option linter.unusedVariables false
set_option linter.unusedSimpArgs false
namespace Go.Proofs.Ytmfjhejhbomlpaa
open Go.RowKit Go.Shelf

/-- A store at rest, made since w. -/
structure StI (w wr : World) (B sb bd n : Nat) (q : Int) (s : SM) : Prop where
  at_ : ∃ F, StoreAt wr B sb bd s F ∧ ∀ k, F k → w.heap.size ≤ k
  calm : s.calm n
  q_ : s.q = q
  bel : Below w.heap.size w wr
  low : B ≤ wr.heap.size
section
variable {w wr w' : World} {B sb bd n : Nat} {q : Int} {s : SM}
theorem StI.below (h : StI w wr B sb bd n q s) (hb : Below wr.heap.size wr w') : StI w w' B sb bd n q s := by
  obtain ⟨F, h1, h2⟩ := h.at_
  exact ⟨⟨F, h1.below hb, h2⟩, h.calm, h.q_, Below.step h.bel h.bel.size hb, Nat.le_trans h.low hb.size⟩
theorem StI.bytes (h : StI w wr B sb bd n q s) (hn : n ≤ 4096) : bytesL s.L ≤ 271056896 ∧ s.L.length ≤ 271056897 ∧ (∀ p ∈ s.L, PrOk p) := by
  have h1 := h.calm.ok.bytes
  have h2 := h.calm.ok.log.T_len (by rw [h.calm.len]; exact hn)
  have h3 := sorted_len h.calm.ok.sorted
  refine ⟨by omega, by omega, fun p hp => ?_⟩
  have := bytesL_mem hp
  exact ⟨by omega, by omega⟩
theorem all_st (h : StI w wr B sb bd n q s) (hn : n ≤ 4096) : Calls Try.prog 15 #[.pointer (some ⟨sb, 0, none⟩)] wr fun e w' => ∃ u, e = .returned u ∧ PairsAt w' wr.heap.size u s.L ∧ Below wr.heap.size wr w' := by
  obtain ⟨F, h1, h2⟩ := h.at_
  exact all_at h1 h.calm.ok (by rw [h.calm.len]; exact hn)
theorem scan_st (h : StI w wr B sb bd n q s) (hn : n ≤ 4096) (front after : ByteArray) (most : Int) (hf : front.size ≤ 1000000000) (ha : after.size ≤ 1000000000) : Calls Try.prog 14 #[.pointer (some ⟨sb, 0, none⟩), .string front, .string after, .int .i64 most] wr fun e w' => ∃ u, e = .returned u ∧ PairsAt w' wr.heap.size u (scanL front after most s.L) ∧ Below wr.heap.size wr w' := by
  obtain ⟨F, h1, h2⟩ := h.at_
  exact scan_at h1 h.calm.ok (by rw [h.calm.len]; exact hn) front after most hf ha
theorem used_st (h : StI w wr B sb bd n q s) : Calls Try.prog 23 #[.pointer (some ⟨sb, 0, none⟩)] wr fun e w' => e = .returned (.int .i64 (bytesL s.L : Int)) ∧ wr = w' := by
  obtain ⟨F, h1, h2⟩ := h.at_
  exact used_at h1
theorem room_st (h : StI w wr B sb bd n q s) : Calls Try.prog 25 #[.pointer (some ⟨sb, 0, none⟩)] wr fun e w' => e = .returned (.int .i64 (roomN s.log.D.now.length s.log.next)) ∧ Below wr.heap.size wr w' := by
  obtain ⟨F, h1, h2⟩ := h.at_
  exact room_at h1 h.calm.ok.log
theorem get_st (h : StI w wr B sb bd n q s) (hn : n ≤ 4096) (key : ByteArray) (hk : key.size ≤ maxLen) : Calls Try.prog 26 #[.pointer (some ⟨sb, 0, none⟩), .string key] wr fun e w' => ∃ u, e = .returned (.tuple #[u, .bool (getL s.L key).isSome]) ∧ RB w' u ((getL s.L key).getD []) ∧ Below wr.heap.size wr w' := by
  obtain ⟨F, h1, h2⟩ := h.at_
  cases hx : getL s.L key with
  | none =>
    refine (get_none h1 key hk hx).mono ?_
    rintro e w' ⟨u, rfl, ho, hb⟩
    exact ⟨u, rfl, ho.rb (by simp), hb⟩
  | some x =>
    have := costL_le s.L key
    rw [costL_some hx] at this
    have := (h.bytes hn).1
    refine (get_some h1 key hk hx (by omega)).mono ?_
    rintro e w' ⟨u, rfl, ho, hb⟩
    exact ⟨u, rfl, ho.rb (by show x.length ≤ _; omega), hb⟩
theorem commit_st (h : StI w wr B sb bd n q s) {Bx : Nat} {u : Value} {ys : List (Chg × Value)} (hcl : CL wr u ys) (hown : OwnCL wr Bx u ys) :
    Calls Try.prog 12 #[.pointer (some ⟨sb, 0, none⟩), u] wr fun e w' => e = .returned (.int .i64 ((s.commit (ys.map Prod.fst)).2 : Int)) ∧ StI w w' B sb bd n q (s.commit (ys.map Prod.fst)).1 ∧
      ∃ F, Changed F wr w' ∧ NoTy wr F 43 ∧ NoTy wr F 5 ∧ NoTy wr F 81 := by
  obtain ⟨F, h1, h2⟩ := h.at_
  have n1 := h1.noTy 81
  have n2 := h1.noTy 5
  have n3 := h1.noTy 43
  refine (commit_at wr h.low h1 h.calm.ok u ys hcl (hown.away n1 n2)).mono ?_
  rintro e w' ⟨rfl, F', hs, hsub, hc⟩
  refine ⟨rfl, ⟨⟨F', hs, fun k hk => ?_⟩, ?_, ?_, Below.changed h.bel hc h2, Nat.le_trans h.low hc.size⟩, F, hc, n3, n2, n1⟩
  · rcases hsub k hk with h3 | h3
    · exact h2 k h3
    · exact Nat.le_trans h.bel.size h3
  · rcases calm_commit h.calm (ys.map Prod.fst) with ⟨_, h3, _⟩ | ⟨_, h3⟩
    · exact h3
    · rw [h3]; exact h.calm
  · rcases calm_commit h.calm (ys.map Prod.fst) with ⟨_, _, _, h3, _⟩ | ⟨_, h3⟩
    · rw [h3]; exact h.q_
    · rw [h3]; exact h.q_
end
end Go.Proofs.Ytmfjhejhbomlpaa
