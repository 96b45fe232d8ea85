/- The law VarsMany: what is set behind so many calls, and the walks of alive, some, num. -/
import Derived.Test.YtpmhkgjplghldaaVarsWalkC
import Derived.Test.YtpmhkgjplghldaaRowsWalk
namespace Go.Proofs.Ytpmhkgjplghldaa
open Go.RowKit Go.Deep Go.Maps Qm.Base
attribute [local go_sem] bt_eq

theorem keyLit (s : ByteArray) : WideAt.IsKeyLit (kLit s) := by simp [kLit, WideAt.IsKeyLit]
/-- the name a0, a1, .. -/
def nmA (i : Nat) : ByteArray := ⟨#[97]⟩ ++ ds (dgL i)
def txX : ByteArray := ⟨#[120]⟩
theorem nmA_size {i : Nat} (h : i < 1000) : 1 < (nmA i).size ∧ (nmA i).size ≤ 4 := by
  have e : (nmA i).size = 1 + (dgL i).length := by rw [nmA, ByteArray.size_append, ds_size]; rfl
  have := dgL_len i 2 (by omega)
  have := dgL_pos i
  omega
theorem bt_nmA (i j : Nat) (h : j < (nmA i).size) : if j = 0 then bt (nmA i) j = 97 else 48 ≤ bt (nmA i) j ∧ bt (nmA i) j ≤ 57 := by
  have e : (nmA i).size = 1 + (dgL i).length := by rw [nmA, ByteArray.size_append, ds_size]; rfl
  have e1 : (⟨#[97]⟩ : ByteArray).size = 1 := rfl
  by_cases h0 : j = 0
  · subst h0
    rw [if_pos rfl, nmA, bt_app, e1, if_pos (by omega)]
    rfl
  · rw [if_neg h0, nmA, bt_app, e1, if_neg (by omega), bt_ds]
    have hl : j - 1 < (dgL i).length := by omega
    have hm := dgL_mem i (dgL i)[j - 1] (List.getElem_mem hl)
    rw [List.getD_eq_getElem?_getD, List.getElem?_eq_getElem hl]
    simp only [Option.getD_some]
    omega
theorem nmF_all {t : Nat → Nat} {n : Nat} : ∀ f k, n ≤ k + f → k ≤ n → (∀ j, k ≤ j → j < n → nmB t j = true) → nmF t n f k = n
  | 0, k, h1, h2, _ => by simp [nmF]; omega
  | f + 1, k, h1, h2, h3 => by
    rw [nmF]
    by_cases hk : k < n
    · rw [if_pos ⟨hk, h3 k (Nat.le_refl _) hk⟩]
      exact nmF_all f (k + 1) (by omega) (by omega) (fun j hj => h3 j (by omega))
    · rw [if_neg (fun c => hk c.1)]
      omega
theorem nmA_ok {i : Nat} (h : i < 1000) : nmOk (bt (nmA i)) (nmA i).size = true := by
  have hs := nmA_size h
  rw [nmOk, decide_eq_true (by omega), decide_eq_true (by omega), nmRun, nmF_all _ _ (by omega) (by omega)]
  · simp
  · intro j _ hj
    have := bt_nmA i j hj
    by_cases h0 : j = 0
    · rw [if_pos h0] at this
      simp [nmB, stB, this]
    · rw [if_neg h0] at this
      simp only [nmB, stB, dgB, Bool.or_eq_true, Bool.and_eq_true, decide_eq_true_eq]
      right
      omega
theorem nmA_inj {i j : Nat} (h : nmA i = nmA j) : i = j := by
  apply dgL_inj
  have hb : ∀ k c, c ∈ dgL k → c < 256 := fun k c hc => by have := dgL_mem k c hc; omega
  have e1 : (⟨#[97]⟩ : ByteArray).size = 1 := rfl
  have hl : (dgL i).length = (dgL j).length := by
    have := congrArg ByteArray.size h
    rw [nmA, nmA, ByteArray.size_append, ByteArray.size_append, ds_size, ds_size] at this
    omega
  apply List.ext_getElem hl
  intro k h1 h2
  have := congrArg (fun s => bt s (k + 1)) h
  simp only [nmA, bt_app, e1] at this
  rw [if_neg (by omega), if_neg (by omega), Nat.add_sub_cancel, bt_ds, bt_ds, List.getD_eq_getElem?_getD, List.getD_eq_getElem?_getD, List.getElem?_eq_getElem h1, List.getElem?_eq_getElem h2] at this
  simp only [Option.getD_some] at this
  have a := hb i _ (List.getElem_mem h1)
  have b := hb j _ (List.getElem_mem h2)
  omega
theorem nmA_ne {i j : Nat} (h : i ≠ j) : kLit (nmA i) ≠ kLit (nmA j) := fun e => h (nmA_inj (kLit_inj e))
/-- what is set behind i calls -/
def DN : Nat → VD
  | 0 => .map []
  | i + 1 => vSet (DN i) (nmA i) txX
theorem DN_low : ∀ i, i ≤ 500 → Tidy (DN i) ∧ Maps.size (DN i) = i ∧ ∀ j, Maps.has (DN i) (kLit (nmA j)) = decide (j < i)
  | 0, _ => ⟨tidy_empty, rfl, fun j => rfl⟩
  | i + 1, h => by
    obtain ⟨h1, h2, h3⟩ := DN_low i (by omega)
    have hc : vCode (DN i) (nmA i) txX = 0 := by
      rw [vCode, nmA_ok (by omega), h3 i, h2]
      simp [txX, hasNul, Lib.indexByte]
      refine ⟨by decide, ?_⟩
      omega
    have e : DN (i + 1) = (DN i).put (kLit (nmA i)) (sDat txX) := by
      show vSet (DN i) (nmA i) txX = _
      rw [vSet, if_pos hc]
    rw [e]
    refine ⟨h1.put (keyLit _) _, by rw [size_put h1, h3 i, h2]; simp, fun j => ?_⟩
    by_cases hj : j = i
    · subst hj
      rw [has_put_same h1.isMap (keyLit _)]
      simp
    · rw [has_put_other (nmA_ne hj), h3 j]
      simp only [decide_eq_decide]
      omega
theorem DN_code {i : Nat} (h : i < 500) : vCode (DN i) (nmA i) txX = 0 := by
  obtain ⟨h1, h2, h3⟩ := DN_low i (by omega)
  rw [vCode, nmA_ok (by omega), h3 i, h2]
  simp [txX, hasNul, Lib.indexByte]
  exact ⟨by decide, by omega⟩
theorem DN_high : ∀ d, d < 100 → DN (500 + d) = DN 500 ∧ vCode (DN (500 + d)) (nmA (500 + d)) txX = 3
  | 0, _ => by
    obtain ⟨h1, h2, h3⟩ := DN_low 500 (by omega)
    refine ⟨rfl, ?_⟩
    rw [vCode, nmA_ok (by omega), h3, h2]
    simp [txX, hasNul, Lib.indexByte]
  | d + 1, hd => by
    obtain ⟨h1, h2, h3⟩ := DN_low 500 (by omega)
    obtain ⟨e, hc⟩ := DN_high d (by omega)
    have e2 : DN (500 + (d + 1)) = DN 500 := by
      show vSet (DN (500 + d)) (nmA (500 + d)) txX = _
      rw [vSet, if_neg (by omega), e]
    refine ⟨e2, ?_⟩
    rw [e2, vCode, nmA_ok (by omega), h3, h2]
    simp [txX, hasNul, Lib.indexByte]
set_option maxRecDepth 100000 in
set_option maxHeartbeats 400000 in
theorem num6_any (n : Int) (w : World) : Calls Try.prog 9 #[.int .i64 n] w fun e w' => e = .returned (.int .i64 n) ∧ w = w' := by
  go_enter Try.func9, Try.ntmps9
  go_wp2
  go_ret
  exact ⟨rfl, rfl⟩
theorem vpost_below {w w' a : World} {g B : Nat} {mv : Value} {D : VD} (h : VPost w g mv D w') (ha : Below B a w) (hB : B ≤ a.heap.size) (hg : B ≤ g) (hm : ∀ b, mv = .map (some b) → B ≤ b) : Below B a w' := by
  obtain ⟨mv', h1, h2, h3, h4, h5⟩ := h
  refine h5.below ha hB fun k hk => ?_
  rcases hk with rfl | hk
  · exact hg
  · exact hm k hk
/-- the variable at g holds D, all of it above B -/
def VAt (B g : Nat) (D : VD) (w0 w : World) : Prop :=
  ∃ mv, w.cell? ⟨g, 0, none⟩ = some mv ∧ w.frozen? ⟨g, 0, none⟩ = false ∧ MVal w mv D ∧ (∀ b, mv = .map (some b) → g < b) ∧ g < w.heap.size ∧ Below B w0 w
theorem VAt.post {B g : Nat} {D' : VD} {w0 w w' : World} {mv : Value} (h1 : ∀ b, mv = .map (some b) → g < b) (hgl : g < w.heap.size) (hb : Below B w0 w) (hB : B ≤ w0.heap.size) (hg : B ≤ g) (hp : VPost w g mv D' w') : VAt B g D' w0 w' := by
  have hb' := vpost_below hp hb hB hg (fun b e => by have := h1 b e; omega)
  obtain ⟨mv', c1, c2, c3, c4, c5⟩ := hp
  refine ⟨mv', c1, c2, c3, fun b e => ?_, Nat.lt_of_lt_of_le hgl c5.size, hb'⟩
  rcases c4 with rfl | rfl
  · exact h1 b e
  · injection e with e
    injection e with e
    omega
theorem VAt.new (w : World) : VAt w.heap.size w.heap.size (.map []) w (w.alloc (.cells #[.map none] 26)) := by
  refine ⟨.map none, ?_, ?_, .inl ⟨rfl, rfl⟩, fun b e => (by cases e), by simp, (Below.refl _ _).alloc (Nat.le_refl _) _⟩
  · rw [World.cell?_alloc_at _ _ _ _ rfl]; rfl
  · exact World.frozen?_alloc_at _ _ _ _ rfl
/-- Set on such a variable -/
theorem vset_at {B g : Nat} {D : VD} {w0 w : World} (h : VAt B g D w0 w) (hB : B ≤ w0.heap.size) (hg : B ≤ g) (name value : ByteArray) (hs : name.size ≤ 100000) (hv : value.size ≤ 100000) (hsz : Maps.size D ≤ 1000) :
    Calls Try.prog 6 #[.pointer (some ⟨g, 0, none⟩), .string name, .string value] w fun e w' => e = .returned (.int .i64 (vCode D name value : Nat)) ∧ VAt B g (vSet D name value) w0 w' := by
  obtain ⟨mv, c1, c2, c3, c4, c5, c6⟩ := h
  exact (vset_any g mv D name value w (by omega) (by omega) c1 c2 c3 hsz (fun b e => by have := c4 b e; omega)).mono fun e w' ⟨h1, h2⟩ => ⟨h1, VAt.post c4 c5 c6 hB hg h2⟩
theorem vunset_at {B g : Nat} {D : VD} {w0 w : World} (h : VAt B g D w0 w) (hB : B ≤ w0.heap.size) (hg : B ≤ g) (name : ByteArray) (hs : name.size ≤ 100000) :
    Calls Try.prog 7 #[.pointer (some ⟨g, 0, none⟩), .string name] w fun e w' => e = .returned (.tuple #[]) ∧ VAt B g (D.del (kLit name)) w0 w' := by
  obtain ⟨mv, c1, c2, c3, c4, c5, c6⟩ := h
  refine (vunset_any g mv D name w (by omega) c1 c3).mono fun e w' ⟨h1, h2, h3⟩ => ⟨h1, mv, h3.cell c1 (fun e => by have := c4 _ e; omega), h3.frozen c5 c2 (fun e => by have := c4 _ e; omega), h2, c4, Nat.lt_of_lt_of_le c5 h3.size, ?_⟩
  exact h3.below c6 hB fun k e => by have := c4 _ e; omega
theorem vget_at {B g : Nat} {D : VD} {w0 w : World} (h : VAt B g D w0 w) (name : ByteArray) (hs : name.size ≤ 100000) :
    ∃ sv : ByteArray, D.atKey (kLit name) (sDat ⟨#[]⟩) = sDat sv ∧ Calls Try.prog 11 #[.pointer (some ⟨g, 0, none⟩), .string name] w fun e w' => e = .returned (.tuple #[.string sv, .bool (Maps.has D (kLit name))]) ∧ w = w' := by
  obtain ⟨mv, c1, c2, c3, _⟩ := h
  exact vget_any g mv D name w (by omega) c1 c3
set_option maxRecDepth 100000 in
set_option maxHeartbeats 1000000 in
theorem alive6_any (w : World) : Calls Try.prog 5 #[] w fun e w' => e = .returned (.bool true) ∧ Below w.heap.size w w' := by
  have hva := VAt.new w
  have HVA := hide hva
  clear hva
  go_enter Try.func5, Try.ntmps5
  go_wp2_with fail
  refine (vset_at HVA.out (Nat.le_refl _) (Nat.le_refl _) ⟨#[97]⟩ ⟨#[49]⟩ (by decide) (by decide) (by decide)).mono ?_
  rintro e w1 ⟨rfl, hv⟩
  have hc : vCode (.map []) ⟨#[97]⟩ ⟨#[49]⟩ = 0 := by kernel_rfl
  have hd : vSet (.map []) ⟨#[97]⟩ ⟨#[49]⟩ = (DataW.map [] : VD).put (kLit ⟨#[97]⟩) (sDat ⟨#[49]⟩) := by rw [vSet, if_pos hc]
  rw [hc]
  have hh : Maps.has (vSet (.map []) ⟨#[97]⟩ ⟨#[49]⟩) (kLit ⟨#[97]⟩) = true := by rw [hd]; exact has_put_same isMap_empty (keyLit _) _
  obtain ⟨sv, hat, hget⟩ := vget_at hv ⟨#[97]⟩ (by decide)
  obtain rfl : sv = ⟨#[49]⟩ := by
    apply sDat_inj
    rw [← hat, hd]
    exact atKey_put_same isMap_empty (keyLit _) _ _
  rw [hh] at hget
  have HG := hide hget
  have HV := hide hv
  have HN1 := hide (show nmOk (bt ⟨#[97, 49]⟩) 2 = true by kernel_rfl)
  have HN2 := hide (show nmOk (bt ⟨#[49, 97]⟩) 2 = false by kernel_rfl)
  clear hget hv hat hd hc hh
  go_wp2_with fail
  refine HG.out.mono ?_
  rintro e w2 ⟨rfl, rfl⟩
  go_wp2_with fail
  refine (num6_any 0 _).mono ?_
  rintro e w2 ⟨rfl, rfl⟩
  go_wp2_with fail
  refine (name_any ⟨#[97, 49]⟩ _ (by decide)).mono ?_
  rintro e w2 ⟨rfl, rfl⟩
  rw [show nmOk (bt ⟨#[97, 49]⟩) (ByteArray.size ⟨#[97, 49]⟩) = true from HN1.out]
  go_wp2_with fail
  refine (name_any ⟨#[49, 97]⟩ _ (by decide)).mono ?_
  rintro e w2 ⟨rfl, rfl⟩
  rw [show nmOk (bt ⟨#[49, 97]⟩) (ByteArray.size ⟨#[49, 97]⟩) = false from HN2.out]
  go_wp2
  go_ret
  obtain ⟨mv, _, _, _, _, _, hb⟩ := HV.out
  exact ⟨rfl, hb⟩
end Go.Proofs.Ytpmhkgjplghldaa
