/- The operator that next tells: its number. -/
import Derived.Test.YtpjbklajjikgjaaDoorArithWalkE
namespace Go.Proofs.YtpjbklajjikgjaaDoor
open Go.RowKit Go.Deep

/-- the operator between two that stands ahead; 0: none -/
def opb2 (c d : UInt8) : Nat := if Ar.lev (Ar.opc2 c d) = 0 then 0 else Ar.opc2 c d
def opb (u : List UInt8) : Nat := opb2 (u.headD 0) (u.tail.headD 0)
/-- the longest one of those that a test takes -/
def nxP (f : ByteArray → Bool) : ByteArray := (lvs.take 10).foldl (fun b l => l.foldl (fun b o => if b.size < o.size then (if f o = true then o else b) else b) b) ⟨#[]⟩
theorem nxS_P (u : List UInt8) : nxS u = nxP (fun o => Lib.hasPrefix u o.data.toList) := rfl
theorem foldl_same {α β : Type} {f g : β → α → β} : ∀ (l : List α) (b : β), (∀ x ∈ l, ∀ b, f b x = g b x) → l.foldl f b = l.foldl g b
  | [], _, _ => rfl
  | x :: l, b, h => by
    rw [List.foldl_cons, List.foldl_cons, h x (by simp)]
    exact foldl_same l _ (fun y hy => h y (by simp [hy]))
theorem nxP_same {f g : ByteArray → Bool} (h : ∀ L ∈ lvs, ∀ o ∈ L, f o = g o) : nxP f = nxP g :=
  foldl_same _ _ fun L hL b => foldl_same _ _ fun o ho b => by rw [h L (List.mem_of_mem_take hL) o ho]
/-- does an operator stand at two bytes? -/
def at2 (c d : UInt8) (o : ByteArray) : Bool := match o.data.toList with
  | [a] => a == c
  | [a, b] => a == c && b == d
  | _ => false
def S12 : List UInt8 := [124, 38, 94, 61, 33, 60, 62, 43, 45, 42, 47, 37]
def S5 : List UInt8 := [124, 38, 61, 60, 62]
theorem ops_form : ∀ L ∈ lvs, ∀ o ∈ L, (∃ a ∈ S12, o.data.toList = [a]) ∨ ∃ a ∈ S12, ∃ b ∈ S5, o.data.toList = [a, b] := by decide
theorem ne_of_mem {c a : UInt8} {l : List UInt8} (h : c ∉ l) (ha : a ∈ l) : (a == c) = false := by
  rw [beq_eq_false_iff_ne]
  rintro rfl
  exact h ha
theorem fin_ops : ∀ c ∈ (0 :: S12), ∀ d ∈ (0 :: S5), nxP (at2 c d) = opS (opb2 c d) := by decide +kernel
theorem opb2_c {c : UInt8} (h : c ∉ S12) (d : UInt8) : opb2 c d = 0 := by
  have g : ∀ a ∈ S12, ¬ c = a := fun a ha e => h (e ▸ ha)
  have h1 := g 124 (by decide)
  have h2 := g 38 (by decide)
  have h3 := g 94 (by decide)
  have h4 := g 61 (by decide)
  have h5 := g 33 (by decide)
  have h6 := g 60 (by decide)
  have h7 := g 62 (by decide)
  have h8 := g 43 (by decide)
  have h9 := g 45 (by decide)
  have h10 := g 42 (by decide)
  have h11 := g 47 (by decide)
  have h12 := g 37 (by decide)
  have e : Ar.opc2 c d = if c = 126 then 20 else if c = 40 then 21 else if c = 41 then 22 else 0 := by
    unfold Ar.opc2
    rw [if_neg h1, if_neg h2, if_neg h3, if_neg h4, if_neg h5, if_neg h6, if_neg h7, if_neg h8, if_neg h9, if_neg h10, if_neg h11, if_neg h12]
  rw [opb2, if_pos]
  rw [e]
  repeat' split
  all_goals rfl
theorem opc2_d {d : UInt8} (h : d ∉ S5) (c : UInt8) : Ar.opc2 c d = Ar.opc2 c 0 := by
  have g : ∀ a ∈ S5, ¬ d = a := fun a ha e => h (e ▸ ha)
  have h1 := g 124 (by decide)
  have h2 := g 38 (by decide)
  have h4 := g 61 (by decide)
  have h6 := g 60 (by decide)
  have h7 := g 62 (by decide)
  have z1 : ¬ (0 : UInt8) = 124 := by decide
  have z2 : ¬ (0 : UInt8) = 38 := by decide
  have z4 : ¬ (0 : UInt8) = 61 := by decide
  have z6 : ¬ (0 : UInt8) = 60 := by decide
  have z7 : ¬ (0 : UInt8) = 62 := by decide
  unfold Ar.opc2
  simp only [if_neg h1, if_neg h2, if_neg h4, if_neg h6, if_neg h7, if_neg z1, if_neg z2, if_neg z4, if_neg z6, if_neg z7]
theorem at2_eq (c d : UInt8) : nxP (at2 c d) = opS (opb2 c d) := by
  by_cases hd : d ∈ S5
  · by_cases hc : c ∈ S12
    · exact fin_ops c (by simp [hc]) d (by simp [hd])
    · rw [opb2_c hc d, ← opb2_c (c := 0) (by decide) d, ← fin_ops 0 (by simp) d (by simp [hd])]
      refine nxP_same fun L hL o ho => ?_
      have z : (0 : UInt8) ∉ S12 := by decide
      rcases ops_form L hL o ho with ⟨a, ha, e⟩ | ⟨a, ha, b, hb, e⟩
      · simp only [at2, e, ne_of_mem hc ha, ne_of_mem z ha]
      · simp only [at2, e, ne_of_mem hc ha, ne_of_mem z ha, Bool.false_and]
  · have e : nxP (at2 c d) = nxP (at2 c 0) := by
      refine nxP_same fun L hL o ho => ?_
      have z : (0 : UInt8) ∉ S5 := by decide
      rcases ops_form L hL o ho with ⟨a, ha, e⟩ | ⟨a, ha, b, hb, e⟩
      · simp only [at2, e]
      · simp only [at2, e, ne_of_mem hd hb, ne_of_mem z hb]
    have e2 : opb2 c d = opb2 c 0 := by rw [opb2, opb2, opc2_d hd]
    rw [e, e2]
    by_cases hc : c ∈ S12
    · exact fin_ops c (by simp [hc]) 0 (by simp)
    · rw [opb2_c hc 0, ← opb2_c (c := 0) (by decide) 0, ← fin_ops 0 (by simp) 0 (by simp)]
      refine nxP_same fun L hL o ho => ?_
      have z : (0 : UInt8) ∉ S12 := by decide
      rcases ops_form L hL o ho with ⟨a, ha, e⟩ | ⟨a, ha, b, hb, e⟩
      · simp only [at2, e, ne_of_mem hc ha, ne_of_mem z ha]
      · simp only [at2, e, ne_of_mem hc ha, ne_of_mem z ha, Bool.false_and]
theorem pre_one (l : List UInt8) (a : UInt8) (ha : a ≠ 0) : Lib.hasPrefix l [a] = (a == l.headD 0) := by
  cases l with
  | nil =>
    have : (a == (0 : UInt8)) = false := by simpa using ha
    rw [show ([] : List UInt8).headD 0 = 0 from rfl, this]; rfl
  | cons c l =>
    show (a == c && [].isPrefixOf l) = (a == c)
    simp
theorem pre_two (l : List UInt8) (a b : UInt8) (ha : a ≠ 0) (hb : b ≠ 0) : Lib.hasPrefix l [a, b] = (a == l.headD 0 && b == l.tail.headD 0) := by
  cases l with
  | nil =>
    have : (a == (0 : UInt8)) = false := by simpa using ha
    rw [show ([] : List UInt8).headD 0 = 0 from rfl, this]; rfl
  | cons c l =>
    have := pre_one l b hb
    show (a == c && Lib.hasPrefix l [b]) = _
    rw [this]; rfl
theorem S12_ne : ∀ a ∈ S12, a ≠ 0 := by decide
theorem S5_ne : ∀ a ∈ S5, a ≠ 0 := by decide
theorem nxS_eq (u : List UInt8) : nxS u = opS (opb u) := by
  rw [nxS_P, opb, ← at2_eq]
  refine nxP_same fun L hL o ho => ?_
  rcases ops_form L hL o ho with ⟨a, ha, e⟩ | ⟨a, ha, b, hb, e⟩
  · simp only [at2, e, pre_one u a (S12_ne a ha)]
  · simp only [at2, e, pre_two u a b (S12_ne a ha) (S5_ne b hb)]
/-- is an operator's text one of a level's? -/
theorem lvs_find' : ∀ k, k < 10 → ∀ c, c < 19 → (lvs.getD k []).any (fun o => o.data.toList == (opS c).data.toList) = decide (Ar.lev c = k + 1) := by decide +kernel
theorem lvs_find {k c : Nat} {L : List ByteArray} (hk : k < 10) (hc : c < 19) (hL : lvs[k]? = some L) : opS c ∈ L ↔ Ar.lev c = k + 1 := by
  have h := lvs_find' k hk c hc
  rw [List.getD_eq_getElem?_getD, hL, Option.getD_some] at h
  constructor
  · intro hm
    have : L.any (fun o => o.data.toList == (opS c).data.toList) = true := List.any_eq_true.2 ⟨_, hm, by simp⟩
    rw [this] at h
    exact of_decide_eq_true h.symm
  · intro hl
    rw [decide_eq_true hl] at h
    obtain ⟨o, ho, he⟩ := List.any_eq_true.1 h
    have : o = opS c := ByteArray.ext (Array.ext' (by simpa using he))
    exact this ▸ ho
theorem lev_lt {c : Nat} (h : ¬ Ar.lev c = 0) : c < 19 := by
  apply Classical.byContradiction
  intro hc
  apply h
  unfold Ar.lev
  repeat rw [if_neg (by omega)]
theorem opb_lt (u : List UInt8) : opb u < 19 ∧ Ar.lev (opb u) = Ar.lev (Ar.opc u) ∧ (opb u ≠ 0 → opb u = Ar.opc u) := by
  show opb2 (u.headD 0) (u.tail.headD 0) < 19 ∧ Ar.lev (opb2 (u.headD 0) (u.tail.headD 0)) = Ar.lev (Ar.opc2 (u.headD 0) (u.tail.headD 0)) ∧ (opb2 (u.headD 0) (u.tail.headD 0) ≠ 0 → opb2 (u.headD 0) (u.tail.headD 0) = Ar.opc2 (u.headD 0) (u.tail.headD 0))
  unfold opb2
  split
  · rename_i h
    exact ⟨by omega, by rw [h]; rfl, fun h => absurd rfl h⟩
  · rename_i h
    exact ⟨lev_lt h, rfl, fun _ => rfl⟩
theorem opS_size : ∀ c, c < 19 → c ≠ 0 → (opS c).size = Ar.ow c := by decide
end Go.Proofs.YtpjbklajjikgjaaDoor
