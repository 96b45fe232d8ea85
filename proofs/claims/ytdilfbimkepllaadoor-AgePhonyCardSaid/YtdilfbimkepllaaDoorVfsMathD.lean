/- Plain law of file systems: what holds of every file system holds behind each call. No program in sight. -/
import Derived.Test.YtdilfbimkepllaaDoorVfsMathC
namespace Go.Proofs.YtdilfbimkepllaaDoor.Vf
open Ln Pth

theorem absS_good {S : St} {p : T} (h : (absS S p).2 = 0) : ∃ l, GoodP l ∧ (absS S p).1 = joinF l ∧ (absF [47] p) = (joinF l, 0) ∧ wayM S.m (joinF l) = 0 := by
  unfold absS at h ⊢
  by_cases h1 : (absF [47] p).2 ≠ 0
  · rw [if_pos h1] at h; exact absurd h h1
  · rw [if_neg h1] at h ⊢
    by_cases h2 : wayM S.m (absF [47] p).1 ≠ 0
    · rw [if_pos h2] at h; exact absurd h h2
    · rw [if_neg h2]
      rcases absF_cases [47] p with ⟨l, g, e, _⟩ | ⟨_, e⟩
      · refine ⟨l, g, by rw [e], e, ?_⟩
        rw [e] at h2
        simpa using h2
      · omega
theorem kind_le (m : Mp) (q : T) : kindM m q ≤ 2 := by
  unfold kindM
  split
  · omega
  · split
    · omega
    · split <;> omega
theorem way_code (m : Mp) (q : T) : ∀ f i, wayB m q f i = 0 ∨ wayB m q f i = 6 ∨ wayB m q f i = 11
  | 0, i => .inl rfl
  | f + 1, i => by
    have := way_code m q f (i + 1)
    rw [wayB]
    split
    · exact .inl rfl
    · split
      · exact this
      · split
        · exact .inr (.inl rfl)
        · split
          · exact .inr (.inr rfl)
          · exact this
theorem root_kind {m : Mp} {q : T} (h : kindM m q ≠ 2) : q ≠ [47] := fun e => h (by rw [e]; rfl)
theorem getG_kind {m : Mp} {q : T} (h : kindM m q = 0) : getG m (bs q) = none := by
  unfold kindM at h
  split at h
  · cases h
  · cases hg : getG m (bs q) with
    | none => rfl
    | some n => rw [hg] at h; simp only at h; split at h <;> cases h
theorem getG_some_kind {m : Mp} {q : T} (hr : q ≠ [47]) (h : kindM m q ≠ 0) : ∃ n, getG m (bs q) = some n := by
  unfold kindM at h
  rw [if_neg hr] at h
  cases hg : getG m (bs q) with
  | none => rw [hg] at h; exact absurd rfl h
  | some n => exact ⟨n, rfl⟩
/-- a node is put -/
theorem put_wf {S : St} (h : WfS S) {l : List T} (hl : GoodP l) (hne : l ≠ []) (dir : Bool) (data : T) (used : Nat)
    (hu : used + (dataM S.m (joinF l)).length = S.used + data.length) (hb : used ≤ S.bytes) (hn : (putG (bs (joinF l), (⟨dir, data, S.clock + 1⟩ : Nd)) S.m).length ≤ S.nodes) :
    WfS { putS S (joinF l) dir data with used := used } := by
  refine ⟨RiseG.put _ h.rise, fun x hx => ?_, ?_, hn, hb, h.n10, h.b20⟩
  · rcases mem_putG hx with rfl | hx
    · exact ⟨l, hl, hne, rfl⟩
    · exact h.good x hx
  · have h1 := sum_put (bs (joinF l), (⟨dir, data, S.clock + 1⟩ : Nd)) h.rise
    have h2 := h.sum
    show used = ((putG (bs (joinF l), (⟨dir, data, S.clock + 1⟩ : Nd)) S.m).map fun x => x.2.data.length).sum
    rw [dataM_sz] at hu
    simp only at h1
    omega
theorem put_len {S : St} (h : WfS S) (k : ByteArray) (v : Nd) : (putG (k, v) S.m).length = S.m.length + (if (getG S.m k).isSome then 0 else 1) := by
  rw [putG_len _ h.rise]; split <;> rfl
theorem good_ne {l : List T} {q : T} (hq : q = joinF l) (h : q ≠ [47]) : l ≠ [] := fun e => h (by rw [hq, e]; rfl)
theorem write_wf {S : St} (h : WfS S) {l : List T} (hl : GoodP l) (b : T) (more : Bool) : WfS (writeQ S (joinF l) b more).1 := by
  unfold writeQ
  by_cases hk : kindM S.m (joinF l) = 2
  · rw [if_pos hk]; exact h
  · rw [if_neg hk]
    have hne : l ≠ [] := good_ne rfl (root_kind hk)
    have hd := dataM_len h (joinF l)
    simp only
    generalize hw : (if more = true then dataM S.m (joinF l) else []) = was
    by_cases hc : S.m.length + (if kindM S.m (joinF l) = 0 then 1 else 0) ≤ S.nodes ∧ S.used + (was.length + b.length) ≤ S.bytes + (dataM S.m (joinF l)).length
    · rw [if_pos hc]
      refine put_wf h hl hne false _ _ ?_ ?_ ?_
      · simp only [List.length_append]; omega
      · omega
      · rw [put_len h]
        by_cases h0 : kindM S.m (joinF l) = 0
        · rw [if_pos h0] at hc; split <;> omega
        · obtain ⟨n, hn⟩ := getG_some_kind (root_kind hk) h0
          have := h.nodes
          simpa [hn] using this
    · rw [if_neg hc]; exact h
theorem writeS_wf {S : St} (h : WfS S) (p b : T) (more : Bool) : WfS (writeS S p b more).1 := by
  unfold writeS
  split
  · exact h
  · rename_i h1
    obtain ⟨l, hl, e, _⟩ := absS_good (S := S) (p := p) (by simpa using h1)
    rw [e]
    exact write_wf h hl b more
theorem mkdirS_wf {S : St} (h : WfS S) (p : T) : WfS (mkdirS S p).1 := by
  unfold mkdirS
  split
  · exact h
  · rename_i h1
    obtain ⟨l, hl, e, _⟩ := absS_good (S := S) (p := p) (by simpa using h1)
    rw [e]
    split
    · exact h
    · rename_i hk
      have hk : kindM S.m (joinF l) = 0 := by simpa using hk
      have hne : l ≠ [] := good_ne rfl (root_kind (m := S.m) (by omega))
      have hg := getG_kind hk
      split
      · rename_i hc
        refine put_wf h hl hne true [] S.used ?_ hc.2 ?_
        · unfold dataM; rw [hg]
        · rw [put_len h, hg]; simpa using hc.1
      · exact h
theorem del_wf {S : St} (h : WfS S) (k : ByteArray) (clock : Nat) : WfS { S with m := delG k S.m, used := S.used - szO (getG S.m k), clock := clock } := by
  have h1 := sum_del k h.rise
  have h2 := h.sum
  have h3 := delG_len k h.rise
  have h4 := h.nodes
  have h5 := h.bytes
  refine ⟨RiseG.del h.rise k, fun x hx => h.good x ((List.mem_filter.1 hx).1), ?_, ?_, ?_, h.n10, h.b20⟩
  · show S.used - _ = ((delG k S.m).map fun x => x.2.data.length).sum
    omega
  · show (delG k S.m).length ≤ S.nodes
    omega
  · show S.used - _ ≤ S.bytes
    omega
theorem removeS_wf {S : St} (h : WfS S) (p : T) : WfS (removeS S p).1 := by
  unfold removeS
  split
  · exact h
  · split
    · exact h
    · split
      · exact h
      · rw [dataM_sz]
        exact del_wf h (bs (foundS S p).1) (S.clock + 1)
theorem touchS_wf {S : St} (h : WfS S) (p : T) : WfS (touchS S p).1 := by
  unfold touchS
  split
  · exact h
  · rename_i h1
    obtain ⟨l, hl, e, _⟩ := absS_good (S := S) (p := p) (by simpa using h1)
    split
    · exact h
    · rename_i h2
      cases hg : getG S.m (bs (absS S p).1) with
      | none => exact writeS_wf h p [] false
      | some n =>
        rw [e] at h2 hg ⊢
        have hne : l ≠ [] := good_ne rfl h2
        exact put_wf h hl hne n.dir n.data S.used (by unfold dataM; rw [hg]) h.bytes (by rw [put_len h, hg]; simpa using h.nodes)
end Go.Proofs.YtdilfbimkepllaaDoor.Vf
