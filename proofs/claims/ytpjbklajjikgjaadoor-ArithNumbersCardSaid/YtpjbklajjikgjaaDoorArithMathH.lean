/- Names as operands. -/
import Derived.Test.YtpjbklajjikgjaaDoorArithMathG
namespace Go.Proofs.YtpjbklajjikgjaaDoor.Ar
theorem stl_facts {c : UInt8} (h : stl c = true) : blk c = false ∧ (∀ d, isSg c d = false) ∧ c ≠ 40 := by
  have n : ∀ k : UInt8, stl k = false → c ≠ k := by rintro k hk rfl; rw [h] at hk; cases hk
  refine ⟨?_, ?_, n 40 (by decide)⟩
  · simp only [blk, Bool.or_eq_false_iff, beq_eq_false_iff_ne]
    exact ⟨⟨n 32 (by decide), n 9 (by decide)⟩, n 10 (by decide)⟩
  · intro d
    have e1 : (c == 43) = false := by simpa using n 43 (by decide)
    have e2 : (c == 45) = false := by simpa using n 45 (by decide)
    have e3 : (c == 126) = false := by simpa using n 126 (by decide)
    have e4 : (c == 33) = false := by simpa using n 33 (by decide)
    simp [isSg, e1, e2, e3, e4]
theorem take_all {p : UInt8 → Bool} {l t : List UInt8} (hl : (l.takeWhile p).length = l.length) (ht : t = [] ∨ p (t.headD 0) = false) : (l ++ t).takeWhile p = l := by
  induction l with
  | nil => cases t with
    | nil => rfl
    | cons c t =>
      rcases ht with h | h
      · cases h
      · rw [List.nil_append, List.takeWhile_cons, if_neg (by simpa using h)]
  | cons c l ih =>
    rw [List.takeWhile_cons] at hl
    by_cases hc : p c = true
    · rw [if_pos hc] at hl
      rw [List.cons_append, List.takeWhile_cons, if_pos hc, ih (by simpa using hl)]
    · rw [if_neg hc] at hl
      simp at hl
theorem Opd.name (K : Kn) (r : Nat) {A : List UInt8} {v : Int} (z : Bool) (h0 : A ≠ []) (hA : nmn A = A.length) (hv : K.nv A = .ok v) : Opd K r A v z z := fun t ht => by
  cases A with
  | nil => exact absurd rfl h0
  | cons c A =>
    have hs : stl c = true := by
      cases hc : stl c with
      | true => rfl
      | false => rw [nmn, hc] at hA; simp at hA
    have hn : (A.takeWhile fun d => stl d || dgl d).length = A.length := by
      rw [nmn, if_pos hs, List.length_cons] at hA; omega
    obtain ⟨f1, f2, f3⟩ := stl_facts hs
    have hg : nmn (c :: (A ++ t)) = (c :: A).length := by
      rw [nmn, if_pos hs, take_all hn (.inr (by rw [ht.1, ht.2]; rfl)), List.length_cons]; omega
    rw [List.cons_append, una_none K _ z f1 (f2 _)]
    unfold prim
    rw [hg, if_neg (by simpa using f3), if_pos (by simp), ← List.cons_append, List.take_left, List.drop_left, hv]
end Go.Proofs.YtpjbklajjikgjaaDoor.Ar
namespace Go.Proofs.YtpjbklajjikgjaaDoor
open Go.RowKit Go.Deep Qm.Base
theorem nmOk_nmn {s : ByteArray} (h : nmOk (bt s) s.size = true) : 0 < s.size ∧ s.size ≤ 60 ∧ Ar.nmn s.data.toList = s.data.toList.length := by
  unfold nmOk at h
  simp only [Bool.and_eq_true, decide_eq_true_eq, beq_iff_eq] at h
  obtain ⟨⟨h1, h2⟩, h3⟩ := h
  rw [nmRun_eq] at h3
  refine ⟨h1, h2, ?_⟩
  rw [h3]; exact Array.length_toList.symm
theorem two_one (nm a v s : ByteArray) : evalF [(nm, a), (nm, v)] s = evalF [(nm, v)] s := by
  have h : KP [(nm, a), (nm, v)] = KP [(nm, v)] := by
    unfold KP
    congr 1
    funext l
    unfold nvF lastV
    simp only [List.foldl_cons, List.foldl_nil]
    by_cases h : nm = ⟨l.toArray⟩
    · simp only [if_pos h]
    · simp only [if_neg h]
  unfold evalF
  rw [h]
theorem KP_plus (P : List Pr) (a b : Int) (z : Bool) : (KP P).dop (Ar.opN 13) a b z = (wrap64 (a + b), z) := by
  show (dopV 14 a b, dopZ 14 b z) = _
  have h1 : dopV 14 a b = wrap64 (a + b) := rfl
  have h2 : dopZ 14 b z = z := by
    unfold dopZ
    rw [if_neg]
    rintro ⟨h, _⟩
    omega
  rw [h1, h2]
theorem whole_ok (v : Int) : wholeF (.ok (v, Ar.sk [], false)) = (v, 0) := rfl
theorem evalF_F (P : List Pr) (l : List UInt8) (h : l.length ≤ 4096) : evalF P (bs l) = wholeF (Ar.F (KP P) 40 1 l false) := by
  rw [evalF_bs P l h, ← Ar.exR_succ (KP P) 40]
theorem names_val (nm : ByteArray) (n : Nat) (h : n ≤ 9223372036854775807) (hk : nmOk (bt nm) nm.size = true) : evalF [(nm, ⟨#[]⟩)] (nm ++ ⟨#[43]⟩ ++ bs (dB n)) = ((n : Int), 0) := by
  obtain ⟨h1, h2, h3⟩ := nmOk_nmn hk
  have hl := dB_len n h
  have hb : bs nm.data.toList = nm := by apply ByteArray.ext; simp [bs]
  have e : nm ++ ⟨#[43]⟩ ++ bs (dB n) = bs (nm.data.toList ++ (Ar.opT 13 ++ dB n)) := by
    rw [← bs_app, ← bs_app, hb, ← ByteArray.append_assoc]; rfl
  have hll : nm.data.toList.length = nm.size := Array.length_toList
  have hT : (Ar.opT 13).length = 1 := rfl
  rw [e, evalF_F _ _ (by simp only [List.length_append, hll, hT]; omega)]
  have hnv : (KP [(nm, ⟨#[]⟩)]).nv nm.data.toList = .ok 0 := by
    show nvF _ _ = _
    have e2 : (⟨nm.data.toList.toArray⟩ : ByteArray) = nm := hb
    rw [e2]
    unfold nvF
    rw [if_neg (by omega)]
    unfold lastV
    simp only [List.foldl_cons, List.foldl_nil, if_pos]
    show valT (trB []) = _
    rw [trB_nil]
    rfl
  have hB : Ar.okB (dB n) := by have := Ar.okB_dig (dB_pos n) (dB_dgl n) []; rwa [List.append_nil] at this
  have := Ar.F_two (KP [(nm, ⟨#[]⟩)]) 40 1 13 (by omega) (by omega) (by decide) (g := []) (g' := []) (t := []) (by simp) (by simp)
    (Ar.Opd.name (KP [(nm, ⟨#[]⟩)]) 40 false (by intro h; rw [h] at hll; simp at hll; omega) h3 hnv) (Ar.Opd.dig _ 40 false (dB_pos n) (dB_dgl n))
    (Ar.okA_op 13 (by omega) _ (by rw [List.append_nil]; exact hB)) (by rw [List.append_nil]; exact hB) Ar.okA_nil (.inr (by decide))
  simp only [List.nil_append, List.append_nil] at this
  rw [this, KP_plus]
  show wholeF (.ok (wrap64 (0 + nI (dB n)), Ar.sk [], false)) = _
  rw [whole_ok, nI_dB n h]
  have hw : wrap64 (0 + (n : Int)) = n := by unfold wrap64; omega
  rw [hw]
theorem PR.new2 (w : World) (a b c d : ByteArray) (t : TypeId) : PR (w.alloc (.cells #[.string a, .string b, .string c, .string d] t)) (some ⟨w.heap.size, 0, none⟩) [(a, b), (c, d)] := by
  intro k x hk
  rcases k with _ | _ | k
  · simp at hk; subst hk
    exact ⟨_, _, rfl, by simp, by rw [World.cell?_alloc_at _ _ _ _ rfl]; rfl, by rw [World.cell?_alloc_at _ _ _ _ rfl]; rfl⟩
  · simp at hk; subst hk
    exact ⟨_, _, rfl, by simp, by rw [World.cell?_alloc_at _ _ _ _ rfl]; rfl, by rw [World.cell?_alloc_at _ _ _ _ rfl]; rfl⟩
  · simp at hk
theorem PR.new1 (w : World) (a b : ByteArray) (t : TypeId) : PR (w.alloc (.cells #[.string a, .string b] t)) (some ⟨w.heap.size, 0, none⟩) [(a, b)] := by
  intro k x hk
  rcases k with _ | k
  · simp at hk; subst hk
    exact ⟨_, _, rfl, by simp, by rw [World.cell?_alloc_at _ _ _ _ rfl]; rfl, by rw [World.cell?_alloc_at _ _ _ _ rfl]; rfl⟩
  · simp at hk
end Go.Proofs.YtpjbklajjikgjaaDoor
