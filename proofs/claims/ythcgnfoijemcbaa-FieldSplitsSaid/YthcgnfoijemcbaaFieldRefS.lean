/- Walk of the reference's Split: what its rows hold in memory. -/
import Derived.Test.YthcgnfoijemcbaaFieldLawB
namespace Go.Proofs.Ythcgnfoijemcbaa
open Go.RowKit Go.Deep
set_option linter.unusedSimpArgs false
set_option linter.unusedVariables false
attribute [local go_sem] bt_eq

/-- what the reference's Split holds: what is done, what is being gathered -/
structure RpI (w0 : World) (out : List FR) (now : List Pt) (vo vn : Value) (w : World) : Prop where
  below : Below w0.heap.size w0 w
  oo : OwnG encFR 1 tyN w w0.heap.size vo out
  on : OwnG encPt 6 tyP w w0.heap.size vn now
  bn : ∀ k, vn.ownBlock = some k → vo.ownBlock ≠ some k
  rows : ∀ r ∈ out, RG encPt 6 w r.A r.L ∧ r.L.length ≤ r.c ∧ r.L ≠ [] ∧ ∀ a, r.A = some a → a.block < w.heap.size ∧ vo.ownBlock ≠ some a.block ∧ vn.ownBlock ≠ some a.block
theorem RpI.made (w : World) : RpI w [] [] (.slice none 0 0) (.slice none 0 0) w :=
  ⟨Below.refl _ _, OwnG.nil _ _, OwnG.nil _ _, fun k e => by simp [Value.ownBlock] at e, fun r hr => by cases hr⟩
theorem RpI.step {w0 w w' : World} {out : List FR} {now : List Pt} {vo vn : Value} (h : RpI w0 out now vo vn w) (hb : Below w.heap.size w w') : RpI w0 out now vo vn w' :=
  ⟨h.below.trans (hb.mono h.below.size), h.oo.of fun k hk => hb.block k (h.oo.lt k hk).2, h.on.of fun k hk => hb.block k (h.on.lt k hk).2, h.bn, fun r hr => by
    obtain ⟨r1, r2, r3, r4⟩ := h.rows r hr
    exact ⟨r1.below hb, r2, r3, fun a e => ⟨Nat.lt_of_lt_of_le (r4 a e).1 hb.size, (r4 a e).2⟩⟩⟩
/-- one part more -/
theorem RpI.push {w0 w : World} {out : List FR} {now : List Pt} {vo vn : Value} (h : RpI w0 out now vo vn w) (hl : now.length ≤ 1000000) (x : Pt) :
    ∃ vn' w4, (Builtin.append_ #[tyN, tyN] tyN #[vn, .slice (some ⟨w.heap.size, 0, none⟩) 1 1]).run Try.prog (w.alloc (.cells #[.int .i64 x.kind, .string x.text, .string x.name, .string x.op, .slice x.wA x.wn x.wc, .bool x.q] tyP)) = .ok vn' w4 ∧ RpI w0 out (now ++ [x]) vo vn' w4 := by
  have hba := (Below.refl w.heap.size w).alloc (Nat.le_refl _) (.cells #[.int .i64 x.kind, .string x.text, .string x.name, .string x.op, .slice x.wA x.wn x.wc, .bool x.q] tyP)
  have h3 := h.step hba
  have hx : RG encPt 6 (w.alloc (.cells #[.int .i64 x.kind, .string x.text, .string x.name, .string x.op, .slice x.wA x.wn x.wc, .bool x.q] tyP)) (some ⟨w.heap.size, 0, none⟩) [x] := rg_new (enc := encPt) (n := 6) w x tyP
  obtain ⟨v4, w4, hrun, ho, hg, hv⟩ := run_appG rowPt encPt_len encPt_one (c := 1) h3.on hx h3.below.size (by simp; omega)
  have hsz : (w.alloc (.cells #[.int .i64 x.kind, .string x.text, .string x.name, .string x.op, .slice x.wA x.wn x.wc, .bool x.q] tyP)).heap.size = w.heap.size + 1 := by simp
  have hnl : ∀ k, vn.ownBlock = some k → w0.heap.size ≤ k ∧ k < w.heap.size := fun k e => h.on.lt k e
  have hvn : ∀ k, v4.ownBlock = some k → vn.ownBlock = some k ∨ k = w.heap.size + 1 := fun k e => by
    rcases hv with q | q
    · exact .inl (q ▸ e)
    · rw [q, hsz] at e
      injection e with e
      exact .inr e.symm
  refine ⟨v4, w4, hrun, ⟨h3.below.trans (Below.of_gb hg h3.below.size fun k e => (hnl k e).1), h3.oo.of fun k e => hg.block k (h3.oo.lt k e).2 fun e2 => h.bn k e2.symm e, ho, fun k e => ?_, fun r hr => ?_⟩⟩
  · rcases hvn k e with q | q
    · exact h.bn k q
    · intro e2
      have := (h.oo.lt k e2).2
      omega
  · obtain ⟨r1, r2, r3, r4⟩ := h.rows r hr
    obtain ⟨q1, q2, q3, q4⟩ := h3.rows r hr
    refine ⟨q1.gb hg fun a e e2 => (r4 a e).2.2 e2.symm, r2, r3, fun a e => ⟨Nat.lt_of_lt_of_le (q4 a e).1 hg.size, (r4 a e).2.1, fun e2 => ?_⟩⟩
    rcases hvn _ e2 with q | q
    · exact (r4 a e).2.2 q
    · have := (r4 a e).1
      omega
/-- what was gathered is done -/
theorem RpI.flush {w0 w : World} {out : List FR} {now : List Pt} {vo : Value} {A : Option Addr} {n c : Nat} (h : RpI w0 out now vo (.slice A n c) w) (hne : now ≠ []) (hl : out.length ≤ 1000000) :
    ∃ vo' w4, (Builtin.append_ #[tyF, tyF] tyF #[vo, .slice (some ⟨w.heap.size, 0, none⟩) 1 1]).run Try.prog (w.alloc (.cells #[.slice A n c] tyN)) = .ok vo' w4 ∧ RpI w0 (out ++ [⟨A, c, now⟩]) [] vo' (.slice none 0 0) w4 := by
  obtain ⟨A1, c1, e, hc, hr, hb, _⟩ := h.on.slice encPt_len
  injection e with e1 e2 e3
  subst e1 e2 e3
  have hba := (Below.refl w.heap.size w).alloc (Nat.le_refl _) (.cells #[.slice A now.length c] tyN)
  have h3 := h.step hba
  have hx : RG encFR 1 (w.alloc (.cells #[.slice A now.length c] tyN)) (some ⟨w.heap.size, 0, none⟩) [⟨A, c, now⟩] := rg_new (enc := encFR) (n := 1) w ⟨A, c, now⟩ tyN
  obtain ⟨v4, w4, hrun, ho, hg, hv⟩ := run_appG rowFR encFR_len encFR_one (c := 1) h3.oo hx h3.below.size (by simp; omega)
  have hsz : (w.alloc (.cells #[.slice A now.length c] tyN)).heap.size = w.heap.size + 1 := by simp
  have hvl : ∀ k, vo.ownBlock = some k → w0.heap.size ≤ k ∧ k < w.heap.size := fun k e => h.oo.lt k e
  have hvo : ∀ k, v4.ownBlock = some k → vo.ownBlock = some k ∨ k = w.heap.size + 1 := fun k e => by
    rcases hv with q | q
    · exact .inl (q ▸ e)
    · rw [q, hsz] at e
      injection e with e
      exact .inr e.symm
  refine ⟨v4, w4, hrun, ⟨h3.below.trans (Below.of_gb hg h3.below.size fun k e => (hvl k e).1), ho, OwnG.nil _ _, fun k e => by simp [Value.ownBlock] at e, fun r hr2 => ?_⟩⟩
  rcases List.mem_append.1 hr2 with hr2 | hr2
  · obtain ⟨r1, r2, r3, r4⟩ := h.rows r hr2
    obtain ⟨q1, q2, q3, q4⟩ := h3.rows r hr2
    refine ⟨q1.gb hg fun a e e2 => (r4 a e).2.1 e2.symm, r2, r3, fun a e => ⟨Nat.lt_of_lt_of_le (q4 a e).1 hg.size, fun e2 => ?_, by simp [Value.ownBlock]⟩⟩
    rcases hvo _ e2 with q | q
    · exact (r4 a e).2.1 q
    · have := (r4 a e).1
      omega
  · rw [List.mem_singleton.1 hr2]
    have q : ∀ a, A = some a → a.block < w.heap.size ∧ vo.ownBlock ≠ some a.block := fun a e => ⟨(h.on.lt _ (hb a e)).2, h.bn _ (hb a e)⟩
    refine ⟨(hr.below hba).gb hg fun a e e2 => (q a e).2 e2.symm, hc, hne, fun a e => ⟨?_, fun e2 => ?_, by simp [Value.ownBlock]⟩⟩
    · have := (q a e).1
      have := hg.size
      show a.block < w4.heap.size
      omega
    · rcases hvo _ e2 with q2 | q2
      · exact (q a e).2 q2
      · have := (q a e).1
        omega
def blkQ (n : Nat) : Bool := n == 32 || n == 9 || n == 10
set_option maxRecDepth 100000 in
set_option maxHeartbeats 1000000 in
theorem blank12_any (n : Nat) (w : World) : Calls Try.prog 19 #[.int .u8 n] w fun e w' => e = .returned (.bool (blkQ n)) ∧ w = w' := by
  by_cases h1 : n = 32
  · subst h1
    go_enter Try.func19, Try.ntmps19
    go_wp2
    go_ret
    exact ⟨rfl, rfl⟩
  · have t1 : (((n : Nat) : Int) == 32) = false := by simp; omega
    by_cases h2 : n = 9
    · subst h2
      go_enter Try.func19, Try.ntmps19
      go_wp2
      go_ret
      exact ⟨rfl, rfl⟩
    · have t2 : (((n : Nat) : Int) == 9) = false := by simp; omega
      by_cases h3 : n = 10
      · subst h3
        go_enter Try.func19, Try.ntmps19
        go_wp2
        go_ret
        exact ⟨rfl, rfl⟩
      have t3 : (((n : Nat) : Int) == 10) = false := by simp; omega
      have hb : blkQ n = false := by simp [blkQ, h1, h2, h3]
      rw [hb]
      clear h1 h2 h3 hb
      go_enter Try.func19, Try.ntmps19
      go_wp2
      go_ret
      exact ⟨rfl, rfl⟩
/-- what the reference's Split holds behind some parts -/
def RpP (w0 : World) (s : Sp) (vo vn : Value) (w : World) : Prop := ∃ out : List FR, out.map FR.L = s.1 ∧ RpI w0 out s.2 vo vn w
theorem RpP.step {w0 w w' : World} {s : Sp} {vo vn : Value} (h : RpP w0 s vo vn w) (hb : Below w.heap.size w w') : RpP w0 s vo vn w' := by
  obtain ⟨out, h1, h2⟩ := h
  exact ⟨out, h1, h2.step hb⟩
theorem RpP.len {w0 w : World} {s : Sp} {vo vn : Value} (h : RpP w0 s vo vn w) : s.1.length ≤ cntS s := by
  obtain ⟨out, h1, h2⟩ := h
  have key : ∀ o : List FR, (∀ r ∈ o, r.L ≠ []) → (o.map FR.L).length ≤ (o.map FR.L).flatten.length := by
    intro o
    induction o with
    | nil => intro _; simp
    | cons r o ih =>
      intro h
      have h1 := ih fun q hq => h q (by simp [hq])
      have h2 : 0 < r.L.length := List.length_pos_iff.2 (h r (by simp))
      rw [List.map_cons, List.length_cons, List.flatten_cons, List.length_append]
      omega
  have := key out fun r hr => (h2.rows r hr).2.2.1
  rw [h1] at this
  unfold cntS
  omega
theorem RpP.push {w0 w : World} {s : Sp} {vo vn : Value} (h : RpP w0 s vo vn w) (hl : cntS s ≤ 1000000) (x : Pt) :
    ∃ vn' w4, (Builtin.append_ #[tyN, tyN] tyN #[vn, .slice (some ⟨w.heap.size, 0, none⟩) 1 1]).run Try.prog (w.alloc (.cells #[.int .i64 x.kind, .string x.text, .string x.name, .string x.op, .slice x.wA x.wn x.wc, .bool x.q] tyP)) = .ok vn' w4 ∧ RpP w0 (s.1, s.2 ++ [x]) vo vn' w4 := by
  obtain ⟨out, h1, h2⟩ := h
  obtain ⟨v, w4, h3, h4⟩ := h2.push (by unfold cntS at hl; omega) x
  exact ⟨v, w4, h3, out, h1, h4⟩
theorem RpP.flush {w0 w : World} {s : Sp} {vo : Value} {A : Option Addr} {n c : Nat} (h : RpP w0 s vo (.slice A n c) w) (hne : s.2 ≠ []) (hl : cntS s ≤ 1000000) :
    ∃ vo' w4, (Builtin.append_ #[tyF, tyF] tyF #[vo, .slice (some ⟨w.heap.size, 0, none⟩) 1 1]).run Try.prog (w.alloc (.cells #[.slice A n c] tyN)) = .ok vo' w4 ∧ RpP w0 (flushS s) vo' (.slice none 0 0) w4 := by
  have h0 := h.len
  obtain ⟨out, h1, h2⟩ := h
  obtain ⟨v, w4, h3, h4⟩ := h2.flush hne (by rw [← List.length_map (f := FR.L), h1]; omega)
  refine ⟨v, w4, h3, out ++ [⟨A, c, s.2⟩], ?_, ?_⟩
  · unfold flushS
    rw [if_neg hne, List.map_append, h1]
    rfl
  · unfold flushS
    rw [if_neg hne]
    exact h4
/-- what is being gathered, as a slice -/
theorem RpP.now {w0 w : World} {s : Sp} {vo vn : Value} (h : RpP w0 s vo vn w) : ∃ A c, vn = .slice A s.2.length c := by
  obtain ⟨out, h1, h2⟩ := h
  obtain ⟨A, c, e, _⟩ := h2.on.slice encPt_len
  exact ⟨A, c, e⟩
end Go.Proofs.Ythcgnfoijemcbaa
