/- Plain facts for find's laws: names that stand right below the root; which rule of two suffixes fits. No program in sight. -/
import Derived.Test.YtmblmenafplccaaGreatDoorFindMath
namespace Go.Proofs.YtmblmenafplccaaGreatDoor
open Ln Pth Vf

theorem good1 {s : T} (h : GoodN s) : GoodP [s] := by
  refine ⟨?_, ?_, ?_, by simp, ?_⟩
  · intro x hx; rw [List.mem_singleton.1 hx]; exact h.ok
  · intro x hx; rw [List.mem_singleton.1 hx]; exact h.len
  · intro x hx; rw [List.mem_singleton.1 hx]; exact h.zero
  · have := h.len
    simp [joinF, slashed]
    omega
theorem join1 (s : T) : joinF [s] = 47 :: s := by simp [joinF, slashed]
theorem abs_top {s : T} (h : GoodN s) : absF [47] (47 :: s) = (47 :: s, 0) := by
  have := absF_good (good1 h)
  rwa [join1] at this
theorem abs_name {s : T} (h : GoodN s) : absF [47] s = (47 :: s, 0) := by
  have hne := h.ok.1
  have hp : partsF [47] s = [s] := by
    unfold partsF
    have e1 : spl 47 [47] = [[], []] := rfl
    have hh : ¬ s.head? = some 47 := by
      intro e
      cases s with
      | nil => cases e
      | cons a l =>
        injection e with e
        exact h.ok.2.2.2 (by rw [e]; simp)
    rw [if_neg hh, e1, spl_none h.ok.2.2.2]
    show List.foldl stepP [] [[], [], s] = _
    rw [List.foldl_cons, stepP_nil, List.foldl_cons, stepP_nil, List.foldl_cons, stepP_ok h.ok]
    rfl
  have hg := good1 h
  unfold absF
  rw [if_neg (by
    rintro (e | e | e)
    · exact hne e
    · simp at e
    · exact h.zero e), hp, if_pos ⟨(longF_iff _).2 hg.long, hg.deep, hg.len⟩, join1]
theorem way_top (m : Mp) {s : T} (h : GoodN s) : wayM m (47 :: s) = 0 := by
  rw [← join1, way_join m (fun x hx => by rw [List.mem_singleton.1 hx]; exact h.ok.2.2.2)]
  rfl
theorem absS_top (S : St) {s : T} (h : GoodN s) : absS S (47 :: s) = (47 :: s, 0) := by
  unfold absS
  rw [abs_top h]
  simp only [ne_eq, not_true_eq_false, if_false]
  rw [way_top _ h]
  rfl
theorem top_ne (s : T) (h : GoodN s) : (47 :: s : T) ≠ [47] := by
  intro e
  injection e with _ e
  exact h.ok.1 e
theorem kindT_top (S : St) {s : T} (h : GoodN s) : kindT S [47] s = kindM S.m (47 :: s) := by
  unfold kindT
  rw [abs_name h]
  simp only [ne_eq, not_true_eq_false, if_false]
  unfold kindS
  rw [absS_top S h]
  rfl
/-- a new empty file at a name -/
theorem write_top (S : St) {s : T} (h : GoodN s) (hk : getG S.m (bs (47 :: s)) = none) (hn : S.m.length + 1 ≤ S.nodes) (hu : S.used ≤ S.bytes) :
    (writeS S (47 :: s) [] false).2 = 0 ∧ (writeS S (47 :: s) [] false).1.m = putG (bs (47 :: s), ⟨false, [], S.clock + 1⟩) S.m ∧ (writeS S (47 :: s) [] false).1.nodes = S.nodes ∧ (writeS S (47 :: s) [] false).1.bytes = S.bytes ∧ (writeS S (47 :: s) [] false).1.used = S.used ∧ (writeS S (47 :: s) [] false).1.clock = S.clock + 1 := by
  have hk0 : kindM S.m (47 :: s) = 0 := by
    unfold kindM
    rw [if_neg (top_ne s h), hk]
  have hd : dataM S.m (47 :: s) = [] := by unfold dataM; rw [hk]
  unfold writeS
  rw [absS_top S h]
  simp only [ne_eq, not_true_eq_false, if_false]
  unfold writeQ
  rw [if_neg (by rw [hk0]; omega), hk0, hd]
  simp only [Bool.false_eq_true, if_false, if_true, List.length_nil, Nat.add_zero]
  rw [if_pos ⟨hn, hu⟩]
  exact ⟨rfl, rfl, rfl, rfl, by simp, rfl⟩
/-! letters -/
def lowT (s : T) : Prop := ∀ c ∈ s, 97 ≤ c ∧ c ≤ 122
theorem low_mem {s : T} (h : lowT s) {c : UInt8} (hc : c < 97) : c ∉ s := fun hm => by
  have := (h c hm).1
  exact absurd (Nat.lt_of_lt_of_le (UInt8.lt_iff_toNat_lt.1 hc) (UInt8.le_iff_toNat_le.1 this)) (Nat.lt_irrefl _)
theorem low_head {c : UInt8} {s : T} (h : lowT (c :: s)) : c ≠ 46 ∧ c ≠ 47 ∧ c ≠ 0 ∧ c ≠ 37 := by
  have := low_mem h (c := c)
  refine ⟨?_, ?_, ?_, ?_⟩ <;> rintro rfl <;> exact this (by decide) (by simp)
theorem low_app {a b : T} : lowT (a ++ b) ↔ lowT a ∧ lowT b := by
  unfold lowT
  constructor
  · intro h
    exact ⟨fun c hc => h c (by simp [hc]), fun c hc => h c (by simp [hc])⟩
  · rintro ⟨h1, h2⟩ c hc
    rcases List.mem_append.1 hc with h | h
    · exact h1 c h
    · exact h2 c h
/-- a name of letters and a dot -/
theorem good_dot {a b : T} (ha : lowT a) (hb : lowT b) (hn : a ≠ []) (hl : a.length + b.length ≤ 59) : GoodN (a ++ 46 :: b) := by
  cases a with
  | nil => exact absurd rfl hn
  | cons c l =>
    have hc := low_head ha
    refine ⟨⟨by simp, ?_, ?_, ?_⟩, ?_, ?_⟩
    · intro e
      injection e with e _
      exact hc.1 e
    · intro e
      injection e with e _
      exact hc.1 e
    · intro e
      rcases List.mem_append.1 e with e | e
      · exact low_mem ha (by decide) e
      · rcases List.mem_cons.1 e with e | e
        · cases e
        · exact low_mem hb (by decide) e
    · simp only [List.length_append, List.length_cons] at hl ⊢
      omega
    · intro e
      rcases List.mem_append.1 e with e | e
      · exact low_mem ha (by decide) e
      · rcases List.mem_cons.1 e with e | e
        · cases e
        · exact low_mem hb (by decide) e
theorem special_false {c : UInt8} {s : T} (h : c ≠ 46) : specT (c :: s) = false := by
  unfold specT
  rw [show (c :: s).getD 0 0 = c from rfl, decide_eq_false h]
  simp
theorem mem_dropW {α : Type} {p : α → Bool} {x : α} (hp : p x = false) : ∀ {l : List α}, x ∈ l → x ∈ l.dropWhile p
  | a :: l, h => by
    rw [List.dropWhile_cons]
    split
    · rename_i ha
      rcases List.mem_cons.1 h with rfl | h
      · rw [hp] at ha; cases ha
      · exact mem_dropW hp h
    · exact h
theorem mem_trimS {l cs : T} {x : UInt8} (hx : x ∈ l) (hc : x ∉ cs) : x ∈ Lib.trimS l cs := by
  unfold Lib.trimS Lib.trimLeftS Lib.trimRightS
  have hp : cs.contains x = false := by simpa using hc
  exact mem_dropW hp (List.mem_reverse.2 (mem_dropW hp (List.mem_reverse.2 hx)))
theorem special_dot {s : T} {x : UInt8} (hx : x ∈ s) (hc : x ∉ azT) : specT (46 :: s) = false := by
  unfold specT
  have : Lib.trimS ((46 :: s).drop 1) azT ≠ [] := fun e => by
    have := mem_trimS (l := (46 :: s).drop 1) hx hc
    rw [e] at this
    cases this
  rw [decide_eq_false this]
  simp
theorem isP_bs (l : T) (h : 37 ∉ l) : isP (bs l) = false := by
  unfold isP
  rw [bs_list, decide_eq_false h]
theorem contS_nil (x : ByteArray) : Lib.containsS [] x = false := by rw [← Bool.not_eq_true, Lib.containsS_iff]; simp
theorem contS_ne {l : List ByteArray} {x : ByteArray} (h : x ∉ l) : Lib.containsS l x = false := by rw [← Bool.not_eq_true, Lib.containsS_iff]; exact h
theorem contS_in {l : List ByteArray} {x : ByteArray} (h : x ∈ l) : Lib.containsS l x = true := (Lib.containsS_iff _ _).2 h
/-- the law's rules of two suffixes -/
structure SufR (a b : T) (r : Rl) : Prop where
  t : r.tg.2.2 = [bs (46 :: (a ++ 46 :: b))]
  n : r.nd.2.2 = []
  r : r.rc.2.2 = [⟨#[114]⟩]
structure SufS (a b : T) (r : Rl) : Prop where
  t : r.tg.2.2 = [suffixes]
  n : r.nd.2.2 = [bs (46 :: a), bs (46 :: b)]
  r : r.rc.2.2 = []
theorem plain_r1 {a b : T} (ha : lowT a) (hb : lowT b) {r : Rl} (h : SufR a b r) : plainR r.tg.2.2 = true := by
  unfold plainR
  rw [h.t]
  simp only [List.any_cons, List.any_nil, Bool.or_false]
  rw [isP_bs]
  · rfl
  · intro e
    rcases List.mem_cons.1 e with e | e
    · cases e
    · rcases List.mem_append.1 e with e | e
      · exact low_mem ha (by decide) e
      · rcases List.mem_cons.1 e with e | e
        · cases e
        · exact low_mem hb (by decide) e
theorem plain_sf : plainR [suffixes] = true := by kernel_rfl
theorem suffixes_ne (a b : T) : suffixes ≠ bs (46 :: (a ++ 46 :: b)) := by
  intro e
  have := congrArg (fun s => s.data.toList) e
  rw [bs_list] at this
  have h : (46 : UInt8) ∈ (46 :: (a ++ 46 :: b)).drop 1 := by simp
  rw [← this] at h
  exact absurd h (by decide)
theorem dot_ne {c : UInt8} {l m : T} (h : c ≠ 46) : bs (c :: l) ≠ bs (46 :: m) := fun e => by
  have := bs_inj e
  injection this with e _
  exact h e
theorem sfx_bs : suffixes = bs [46, 83, 85, 70, 70, 73, 88, 69, 83] := rfl
theorem isSuffix_app (s x : T) : Lib.hasSuffix (s ++ x) x = true := by
  unfold Lib.hasSuffix
  rw [List.isSuffixOf_iff_suffix]
  exact List.suffix_append s x
theorem suf_fit {c : UInt8} {st a b : T} (hs : lowT (c :: st)) (ha : lowT a) (hb : lowT b) (hab : a ≠ b) (S : St) (hg : GoodN ((c :: st) ++ 46 :: a)) (kl : List ByteArray) (hkl : ∀ x ∈ kl, ∃ m, x = bs (46 :: m)) (p : Pn) {r1 : Rl} (h1 : SufR a b r1) (l : List ByteArray) :
    (l = [] → suf1 S [47] kl ((c :: st) ++ 46 :: b) l p r1 = none) ∧ (l = [bs (46 :: a), bs (46 :: b)] → suf1 S [47] kl ((c :: st) ++ 46 :: b) l p r1 = if kindM S.m (47 :: ((c :: st) ++ 46 :: a)) = 1 then some (takesF p [bs ((c :: st) ++ 46 :: a)] [⟨#[114]⟩] (c :: st)) else none) := by
  have hc := low_head hs
  have hsp : specT (bs (46 :: (a ++ 46 :: b))).data.toList = false := by
    rw [bs_list]
    exact special_dot (x := 46) (by simp) (by decide)
  have hpre : Lib.hasPrefix (bs (46 :: (a ++ 46 :: b))).data.toList [46] = true := by rw [bs_list]; rfl
  have hsuf : suf1 S [47] kl ((c :: st) ++ 46 :: b) l p r1 = (if (twoF (46 :: (a ++ 46 :: b)) l).2.2 = false then none else
    if Lib.hasSuffix ((c :: st) ++ 46 :: b) (twoF (46 :: (a ++ 46 :: b)) l).2.1 = false then none else
    if ((c :: st) ++ 46 :: b).length ≤ (twoF (46 :: (a ++ 46 :: b)) l).2.1.length then none else
    if Lib.trimSuffix ((c :: st) ++ 46 :: b) (twoF (46 :: (a ++ 46 :: b)) l).2.1 ++ (twoF (46 :: (a ++ 46 :: b)) l).1 = ((c :: st) ++ 46 :: b) then none else
    if kindT S [47] (Lib.trimSuffix ((c :: st) ++ 46 :: b) (twoF (46 :: (a ++ 46 :: b)) l).2.1 ++ (twoF (46 :: (a ++ 46 :: b)) l).1) ≠ 1 ∧ Lib.containsS kl (bs (Lib.trimSuffix ((c :: st) ++ 46 :: b) (twoF (46 :: (a ++ 46 :: b)) l).2.1 ++ (twoF (46 :: (a ++ 46 :: b)) l).1)) = false then none else
    some (takesF p [bs (Lib.trimSuffix ((c :: st) ++ 46 :: b) (twoF (46 :: (a ++ 46 :: b)) l).2.1 ++ (twoF (46 :: (a ++ 46 :: b)) l).1)] r1.rc.2.2 (Lib.trimSuffix ((c :: st) ++ 46 :: b) (twoF (46 :: (a ++ 46 :: b)) l).2.1))) := by
    unfold suf1
    rw [if_neg (by rw [h1.r]; simp)]
    unfold sufO
    rw [if_neg (by rw [plain_r1 ha hb h1]; simp), if_neg (by rw [h1.n]; simp)]
    simp only [h1.t]
    rw [if_neg (by rw [hsp]; simp), if_neg (by rw [hpre]; simp)]
    simp only [bs_list]
  constructor
  · rintro rfl
    rw [hsuf]
    unfold twoF twoGo
    rw [contS_nil, if_pos rfl]
  · rintro rfl
    have htwo : twoF (46 :: (a ++ 46 :: b)) [bs (46 :: a), bs (46 :: b)] = (46 :: a, 46 :: b, true) := by
      unfold twoF twoGo
      have hp : Lib.hasPrefix (46 :: (a ++ 46 :: b)) (bs (46 :: a)).data.toList = true := by
        rw [bs_list]
        unfold Lib.hasPrefix
        rw [List.isPrefixOf_iff_prefix]
        exact ⟨46 :: b, by simp⟩
      have hd : (46 :: (a ++ 46 :: b)).drop (bs (46 :: a)).size = 46 :: b := by
        rw [bs_size, List.length_cons, List.drop_succ_cons, List.drop_left]
      rw [hd, hp, contS_in (by simp), if_pos (show (true && true) = true from rfl), bs_list]
    rw [hsuf, htwo]
    have hts : Lib.trimSuffix ((c :: st) ++ 46 :: b) (46 :: b) = c :: st := by
      unfold Lib.trimSuffix
      rw [if_pos (isSuffix_app _ _), List.length_append, Nat.add_sub_cancel, List.take_left]
    dsimp only
    rw [if_neg (by simp), if_neg (by rw [isSuffix_app]; simp), if_neg (by simp only [List.length_append, List.length_cons]; omega), hts, if_neg (by
      intro e
      exact hab (by simpa using e)), h1.r, kindT_top S hg]
    have hk : Lib.containsS kl (bs ((c :: st) ++ 46 :: a)) = false := contS_ne (fun hm => by
      obtain ⟨m, e⟩ := hkl _ hm
      exact dot_ne (l := st ++ 46 :: a) hc.1 e)
    rw [hk]
    by_cases h : kindM S.m (47 :: ((c :: st) ++ 46 :: a)) = 1
    · rw [if_neg (by rw [h]; simp), if_pos h]
    · rw [if_pos ⟨h, rfl⟩, if_neg h]
/-- what the law's makefile plans -/
theorem suf_plan {stem a b : T} (hs : lowT stem) (ha : lowT a) (hb : lowT b) (hsn : stem ≠ []) (hab : a ≠ b) (hl : stem.length + a.length ≤ 59) (S : St) {r1 r2 : Rl} (h1 : SufR a b r1) (h2 : SufS a b r2) :
    planF S [47] [r1] (stem ++ 46 :: b) = noPn ∧ planF S [47] [r1, r2] (stem ++ 46 :: b) = if kindM S.m (47 :: (stem ++ 46 :: a)) = 1 then ⟨[bs (stem ++ 46 :: a)], [⟨#[114]⟩], stem, true⟩ else noPn := by
  cases stem with
  | nil => exact absurd rfl hsn
  | cons c st =>
    have hc := low_head hs
    have hg := good_dot hs ha hsn hl
    have hp1 := plain_r1 ha hb h1
    have hsp : specT ((c :: st) ++ 46 :: b) = false := special_false hc.1
    have hne : ∀ m, bs ((c :: st) ++ 46 :: b) ≠ bs (46 :: m) := fun m => dot_ne (l := st ++ 46 :: b) hc.1
    have ho1 : ofR (bs ((c :: st) ++ 46 :: b)) r1 = false := by
      unfold ofR
      rw [h1.t, contS_ne (by simp only [List.mem_singleton]; exact hne _), Bool.and_false]
    have ho2 : ofR (bs ((c :: st) ++ 46 :: b)) r2 = false := by
      unfold ofR
      rw [h2.t, contS_ne (by simp only [List.mem_singleton]; rw [sfx_bs]; exact hne _), Bool.and_false]
    have hs1 : ofR suffixes r1 = false := by
      unfold ofR
      rw [h1.t, contS_ne (by simp only [List.mem_singleton]; exact suffixes_ne a b), Bool.and_false]
    have hs2 : ofR suffixes r2 = true := by
      unfold ofR
      rw [h2.t, plain_sf, contS_in (by simp)]
      rfl
    have hk1 : knownsF [r1] = [bs (46 :: (a ++ 46 :: b))] := by
      unfold knownsF
      rw [List.flatMap_cons, if_pos hp1, h1.t]
      rfl
    have hk2 : knownsF [r1, r2] = [bs (46 :: (a ++ 46 :: b)), suffixes] := by
      have : plainR r2.tg.2.2 = true := by rw [h2.t]; exact plain_sf
      unfold knownsF
      rw [List.flatMap_cons, List.flatMap_cons, if_pos hp1, if_pos this, h1.t, h2.t]
      rfl
    have hx1 : specialR [r1] suffixes = [] := by simp [specialR, hs1]
    have hx2 : specialR [r1, r2] suffixes = [bs (46 :: a), bs (46 :: b)] := by simp [specialR, hs1, hs2, h2.n]
    have hq1 : ∀ kl p, pat1 S [47] kl ((c :: st) ++ 46 :: b) p r1 = none := fun kl p => by unfold pat1; rw [if_pos hp1]
    have hq2 : ∀ kl p, pat1 S [47] kl ((c :: st) ++ 46 :: b) p r2 = none := fun kl p => by unfold pat1; rw [h2.t, if_pos plain_sf]
    have hr2 : ∀ kl l p, suf1 S [47] kl ((c :: st) ++ 46 :: b) l p r2 = none := fun kl l p => by unfold suf1; rw [if_pos (by rw [h2.r]; rfl)]
    have hkl : ∀ x ∈ [bs (46 :: (a ++ 46 :: b)), suffixes], ∃ m, x = bs (46 :: m) := by
      intro x hx
      simp only [List.mem_cons, List.not_mem_nil, or_false] at hx
      rcases hx with rfl | rfl
      · exact ⟨_, rfl⟩
      · exact ⟨_, sfx_bs⟩
    constructor
    · unfold planF
      rw [if_neg (by rw [hsp]; simp)]
      have hgf : gathersF (bs ((c :: st) ++ 46 :: b)) [r1] = noPn := by
        show gatherF _ noPn r1 = noPn
        unfold gatherF
        rw [if_neg (by rw [ho1]; simp)]
      rw [hgf, if_pos (show noPn.recipe = [] from rfl)]
      unfold fitsF
      rw [hk1, hx1]
      simp only [firstO, hq1]
      rw [(suf_fit hs ha hb hab S hg _ (fun x hx => hkl x (by simp at hx; simp [hx])) noPn h1 []).1 rfl]
    · unfold planF
      rw [if_neg (by rw [hsp]; simp)]
      have hgf : gathersF (bs ((c :: st) ++ 46 :: b)) [r1, r2] = noPn := by
        show gatherF _ (gatherF _ noPn r1) r2 = noPn
        have e1 : gatherF (bs ((c :: st) ++ 46 :: b)) noPn r1 = noPn := by
          unfold gatherF
          rw [if_neg (by rw [ho1]; simp)]
        rw [e1]
        unfold gatherF
        rw [if_neg (by rw [ho2]; simp)]
      rw [hgf, if_pos (show noPn.recipe = [] from rfl)]
      unfold fitsF
      rw [hk2, hx2]
      simp only [firstO, hq1, hq2, hr2]
      rw [(suf_fit hs ha hb hab S hg _ hkl noPn h1 _).2 rfl]
      by_cases h : kindM S.m (47 :: ((c :: st) ++ 46 :: a)) = 1
      · rw [if_pos h, if_pos h]
        rfl
      · rw [if_neg h, if_neg h]
end Go.Proofs.YtmblmenafplccaaGreatDoor
