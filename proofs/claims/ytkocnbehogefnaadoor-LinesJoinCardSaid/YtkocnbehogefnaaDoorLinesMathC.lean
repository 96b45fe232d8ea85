/- Plain law of LinesJoin: words, parted by a line's end that goes on. No program in sight. -/
import Derived.Test.YtkocnbehogefnaaDoorLinesMathB
namespace Go.Proofs.YtkocnbehogefnaaDoor.Ln

def okc (c : UInt8) : Prop := c ≠ 0 ∧ c ≠ 9 ∧ c ≠ 10 ∧ c ≠ 32 ∧ c ≠ 35 ∧ c ≠ 92
def okw (w : T) : Prop := w ≠ [] ∧ ∀ c ∈ w, okc c
abbrev SEP : T := [32, 9, 92, 10, 32, 32]
def Jo (sep : T) : List T → T
  | [] => []
  | w :: ws => w ++ ws.flatMap (sep ++ ·)
theorem Jo_snoc (sep : T) (w : T) (ws : List T) (v : T) : Jo sep (w :: ws ++ [v]) = Jo sep (w :: ws) ++ sep ++ v := by
  simp [Jo]
theorem Jo_cons (sep : T) (w v : T) (ws : List T) : Jo sep (w :: v :: ws) = w ++ sep ++ Jo sep (v :: ws) := by
  simp [Jo]
theorem okw.last {w : T} (h : okw w) : ∃ x y, w = x ++ [y] ∧ okc y := by
  rcases List.eq_nil_or_concat w with rfl | ⟨x, y, rfl⟩
  · exact absurd rfl h.1
  · exact ⟨x, y, by simp, h.2 y (by simp)⟩
theorem okw.head {w : T} (h : okw w) : ∃ y x, w = y :: x ∧ okc y := by
  cases w with
  | nil => exact absurd rfl h.1
  | cons y x => exact ⟨y, x, rfl, h.2 y (by simp)⟩
theorem blk_no {c : UInt8} (h : okc c) : blk c = false := by
  obtain ⟨_, h9, _, h32, _, _⟩ := h
  simp [blk, h9, h32]
theorem trimR_app {a : T} {y : UInt8} (h : okc y) : trimR (a ++ [y] ++ [32, 9]) = a ++ [y] := by
  simp [trimR, List.dropWhile, blk_no h, show blk 32 = true from rfl, show blk 9 = true from rfl]
theorem trimR_none {a : T} {y : UInt8} (h : okc y) : trimR (a ++ [y]) = a ++ [y] := by
  simp [trimR, blk_no h]
theorem trimL_none {a : T} {y : UInt8} (h : okc y) : trimL (y :: a) = y :: a := by
  simp [trimL, List.dropWhile, blk_no h]
theorem trimL_two {a : T} {y : UInt8} (h : okc y) : trimL (32 :: 32 :: y :: a) = y :: a := by
  simp [trimL, List.dropWhile, blk_no h, show blk 32 = true from rfl]
theorem odd_sep (a : T) : oddB (a ++ [32, 9, 92]) = true := by
  simp [oddB, List.takeWhile]
theorem odd_last {a : T} {y : UInt8} (h : okc y) : oddB (a ++ [y]) = false := oddB_no (by
  obtain ⟨_, _, _, _, _, h92⟩ := h
  simpa using h92)
theorem front_sep {a : T} {y : UInt8} (h : okc y) : front (a ++ [y] ++ [32, 9, 92]) = a ++ [y] ++ [32] := by
  have : (a ++ [y] ++ [32, 9, 92] : T).dropLast = a ++ [y] ++ [32, 9] := by
    rw [show (a ++ [y] ++ [32, 9, 92] : T) = (a ++ [y] ++ [32, 9]) ++ [92] from by simp, List.dropLast_concat]
  rw [front, this, trimR_app h]
theorem spl_more {p w : T} (hp : (10 : UInt8) ∉ p) (hw : okw w) (v : T) (ws : List T) : spl 10 (p ++ Jo SEP (w :: v :: ws)) = (p ++ w ++ [32, 9, 92]) :: spl 10 (32 :: 32 :: Jo SEP (v :: ws)) := by
  rw [Jo_cons]
  rw [show (p ++ (w ++ SEP ++ Jo SEP (v :: ws)) : T) = (p ++ w ++ [32, 9, 92]) ++ 10 :: (32 :: 32 :: Jo SEP (v :: ws)) from by simp]
  refine spl_app _ ?_
  intro h
  simp only [List.mem_append, List.mem_cons, List.not_mem_nil, or_false] at h
  rcases h with (h | h) | h
  · exact hp h
  · exact (hw.2 _ h).2.2.1 rfl
  · revert h; decide
theorem spl_one {p w : T} (hp : (10 : UInt8) ∉ p) (hw : okw w) : spl 10 (p ++ Jo SEP [w]) = [p ++ w] := by
  rw [show Jo SEP [w] = w from by simp [Jo]]
  refine spl_none ?_
  intro h
  rw [List.mem_append] at h
  rcases h with h | h
  · exact hp h
  · exact (hw.2 _ h).2.2.1 rfl
theorem othF_join : ∀ (ws : List T) (w a : T) (y : UInt8), okc y → okw w → (∀ x ∈ ws, okw x) → othF (spl 10 (32 :: 32 :: Jo SEP (w :: ws))) (a ++ [y] ++ [32, 9, 92]) = (a ++ [y] ++ 32 :: Jo [32] (w :: ws), [])
  | [], w, a, y, hy, hw, _ => by
    have e := spl_one (p := [32, 32]) (by decide) hw
    change spl 10 (32 :: 32 :: Jo SEP [w]) = _ at e
    obtain ⟨x, z, rfl, hz⟩ := hw.last
    obtain ⟨h, t, ht, hh⟩ := hw.head
    rw [e, othF, if_pos (odd_sep _), front_sep hy]
    rw [show trimL ([32, 32] ++ (x ++ [z])) = x ++ [z] from by rw [ht]; exact trimL_two hh]
    rw [show (a ++ [y] ++ [32] ++ (x ++ [z]) : T) = (a ++ [y] ++ 32 :: x) ++ [z] from by simp, othF, if_neg (by rw [odd_last hz]; simp)]
    simp [Jo]
  | v :: ws, w, a, y, hy, hw, hs => by
    have e := spl_more (p := [32, 32]) (by decide) hw v ws
    change spl 10 (32 :: 32 :: Jo SEP (w :: v :: ws)) = _ at e
    obtain ⟨x, z, rfl, hz⟩ := hw.last
    obtain ⟨h, t, ht, hh⟩ := hw.head
    rw [e, othF, if_pos (odd_sep _), front_sep hy]
    rw [show trimL ([32, 32] ++ (x ++ [z]) ++ [32, 9, 92]) = x ++ [z] ++ [32, 9, 92] from by rw [ht]; exact trimL_two hh]
    rw [show (a ++ [y] ++ [32] ++ (x ++ [z] ++ [32, 9, 92]) : T) = (a ++ [y] ++ 32 :: x) ++ [z] ++ [32, 9, 92] from by simp]
    rw [othF_join ws v _ z hz (hs v (by simp)) (fun q hq => hs q (by simp [hq]))]
    rw [Jo_cons]
    simp
theorem recF_join : ∀ (ws : List T) (w s acc : T), okw w → (∀ x ∈ ws, okw x) → oddB s = true → recF (spl 10 (32 :: 32 :: Jo SEP (w :: ws))) s acc = (acc ++ 10 :: 32 :: 32 :: Jo SEP (w :: ws), [])
  | [], w, s, acc, hw, _, ho => by
    have e := spl_one (p := [32, 32]) (by decide) hw
    change spl 10 (32 :: 32 :: Jo SEP [w]) = _ at e
    rw [e, recF, if_pos ho]
    simp [Jo, recF, dropTab]
  | v :: ws, w, s, acc, hw, hs, ho => by
    have e := spl_more (p := [32, 32]) (by decide) hw v ws
    change spl 10 (32 :: 32 :: Jo SEP (w :: v :: ws)) = _ at e
    rw [e, recF, if_pos ho]
    rw [show dropTab ([32, 32] ++ w ++ [32, 9, 92]) = [32, 32] ++ w ++ [32, 9, 92] from rfl]
    rw [recF_join ws v _ _ (hs v (by simp)) (fun q hq => hs q (by simp [hq])) (odd_sep _), Jo_cons]
    simp
theorem Jo_last (sep : T) {w : T} (hw : okw w) (ws : List T) (hs : ∀ x ∈ ws, okw x) : ∃ a z, Jo sep (w :: ws) = a ++ [z] ∧ okc z := by
  rcases List.eq_nil_or_concat ws with rfl | ⟨us, v, rfl⟩
  · obtain ⟨x, z, e, hz⟩ := hw.last
    exact ⟨x, z, by rw [← e]; simp [Jo], hz⟩
  · obtain ⟨x, z, rfl, hz⟩ := (hs v (by simp)).last
    exact ⟨Jo sep (w :: us) ++ sep ++ x, z, by rw [List.concat_eq_append, ← List.cons_append, Jo_snoc]; simp, hz⟩
theorem Jo_head (sep : T) {w : T} (hw : okw w) (ws : List T) : ∃ y x, Jo sep (w :: ws) = y :: x ∧ okc y := by
  obtain ⟨y, x, rfl, hy⟩ := hw.head
  exact ⟨y, _, rfl, hy⟩
theorem Jo_mem {sep w : T} {ws : List T} (hw : okw w) (hs : ∀ x ∈ ws, okw x) {c : UInt8} (h : c ∈ Jo sep (w :: ws)) : okc c ∨ c ∈ sep := by
  rw [Jo, List.mem_append, List.mem_flatMap] at h
  rcases h with h | ⟨x, hx, h⟩
  · exact .inl (hw.2 c h)
  · rcases List.mem_append.1 h with h | h
    · exact .inr h
    · exact .inl ((hs x hx).2 c h)
theorem comm_none : ∀ {s : T}, (35 : UInt8) ∉ s → comm s = s
  | [], _ => rfl
  | [c], h => by
    rw [comm, if_neg (fun e => h (by simp [e]))]
  | c :: d :: l, h => by
    rw [comm, if_neg (fun e => h (by simp [e.2])), if_neg (fun e => h (by simp [e])), comm_none (fun e => h (List.mem_cons_of_mem _ e))]
theorem plain_join {w : T} (hw : okw w) (ws : List T) (hs : ∀ x ∈ ws, okw x) : plainF (Jo [32] (w :: ws)) = Jo [32] (w :: ws) := by
  have hc : comm (Jo [32] (w :: ws)) = Jo [32] (w :: ws) := comm_none (fun h => by
    rcases Jo_mem hw hs h with h | h
    · exact h.2.2.2.2.1 rfl
    · revert h; decide)
  obtain ⟨a, z, e, hz⟩ := Jo_last [32] hw ws hs
  obtain ⟨y, x, e2, hy⟩ := Jo_head [32] hw ws
  unfold plainF
  rw [hc]
  have : trimR (Jo [32] (w :: ws)) = Jo [32] (w :: ws) := by rw [e]; exact trimR_none hz
  rw [this, e2]
  exact trimL_none hy
theorem cutL_join (p : T) {w : T} (hw : okw w) (ws : List T) (hs : ∀ x ∈ ws, okw x) : cutL (p ++ Jo SEP (w :: ws)) = spl 10 (p ++ Jo SEP (w :: ws)) := by
  obtain ⟨a, z, e, hz⟩ := Jo_last SEP hw ws hs
  unfold cutL
  rw [if_neg]
  rw [e, ← List.append_assoc, spl_snoc hz.2.2.1]
  simp
theorem readF_ok {s : T} (h1 : s.length ≤ 16384) (h2 : (0 : UInt8) ∉ s) : readF s = (linesA (cutL s), 0) := by
  unfold readF
  rw [if_neg (by omega), if_neg h2]
theorem Jo_zero {w : T} (hw : okw w) {ws : List T} (hs : ∀ x ∈ ws, okw x) : (0 : UInt8) ∉ Jo SEP (w :: ws) := fun h => by
  rcases Jo_mem hw hs h with h | h
  · exact h.1 rfl
  · revert h; decide
/-- words parted so are one line, parted by blanks -/
theorem join_plain {w : T} (hw : okw w) (ws : List T) (hs : ∀ x ∈ ws, okw x) (hl : (Jo SEP (w :: ws)).length ≤ 16384) : readF (Jo SEP (w :: ws)) = ([(false, Jo [32] (w :: ws))], 0) := by
  rw [readF_ok hl (Jo_zero hw hs)]
  have hc := cutL_join [] hw ws hs
  rw [List.nil_append] at hc
  rw [hc]
  obtain ⟨y, x, e2, hy⟩ := Jo_head [32] hw ws
  have hp := plain_join hw ws hs
  have hne : Jo [32] (w :: ws) ≠ [] := by rw [e2]; simp
  obtain ⟨h, t, ht, hh⟩ := hw.head
  obtain ⟨a, z, hz, hz2⟩ := hw.last
  have h9 : h ≠ 9 := hh.2.1
  cases ws with
  | nil =>
    have e := spl_one (p := []) (by simp) hw
    rw [List.nil_append, List.nil_append] at e
    have hj : Jo [32] [w] = w := by simp [Jo]
    rw [hj] at hp hne
    have ho : othF [] w = (w, []) := by
      rw [othF, if_neg]
      rw [hz, odd_last hz2]; simp
    rw [e, linesA_cons, ho, hj, if_neg (by rw [ht]; exact h9)]
    dsimp only
    rw [hp, if_neg hne, linesA_nil, List.append_nil]
  | cons v us =>
    have e := spl_more (p := []) (by simp) hw v us
    rw [List.nil_append, List.nil_append] at e
    have ho : othF (spl 10 (32 :: 32 :: Jo SEP (v :: us))) (w ++ [32, 9, 92]) = (Jo [32] (w :: v :: us), []) := by
      rw [hz, othF_join us v a z hz2 (hs v (by simp)) (fun q hq => hs q (by simp [hq])), Jo_cons]
      simp
    rw [e, linesA_cons, ho, if_neg (by rw [ht]; exact h9)]
    dsimp only
    rw [hp, if_neg hne, linesA_nil, List.append_nil]
/-- a recipe's stay as they stand -/
theorem join_recipe {w : T} (hw : okw w) (ws : List T) (hs : ∀ x ∈ ws, okw x) (hl : (9 :: Jo SEP (w :: ws)).length ≤ 16384) : readF (9 :: Jo SEP (w :: ws)) = ([(true, Jo SEP (w :: ws))], 0) := by
  rw [readF_ok hl (by
    intro h
    rcases List.mem_cons.1 h with h | h
    · revert h; decide
    · exact Jo_zero hw hs h)]
  have hc := cutL_join [9] hw ws hs
  rw [List.singleton_append] at hc
  rw [hc]
  cases ws with
  | nil =>
    have e := spl_one (p := [9]) (by decide) hw
    rw [List.singleton_append, List.singleton_append] at e
    rw [e, linesA_cons, if_pos (show (9 :: w : T).headD 0 = 9 from rfl)]
    simp [Jo, recF, linesA_nil]
  | cons v us =>
    have e := spl_more (p := [9]) (by decide) hw v us
    rw [List.singleton_append] at e
    have hr := recF_join us v (w ++ [32, 9, 92]) (w ++ [32, 9, 92]) (hs v (by simp)) (fun q hq => hs q (by simp [hq])) (odd_sep _)
    rw [e, linesA_cons, if_pos (show ([9] ++ w ++ [32, 9, 92] : T).headD 0 = 9 from rfl)]
    rw [show ([9] ++ w ++ [32, 9, 92] : T).tail = w ++ [32, 9, 92] from rfl, hr, Jo_cons]
    simp [linesA_nil]
end Go.Proofs.YtkocnbehogefnaaDoor.Ln
