/- Walk of the law FindGathers. -/
import Derived.Test.YtmblmenafplccaaDoorMkSep
import Derived.Test.YtmblmenafplccaaDoorOpenLists
import Derived.Test.YtmblmenafplccaaDoorOpenRows
import Derived.Test.YtmblmenafplccaaDoorStrsWalkB
import Derived.Test.YtmblmenafplccaaDoorDigitsWalk
namespace Go.Proofs.YtmblmenafplccaaDoor
open Go.RowKit Go.Deep Go.Maps Ln Pth Vf Qm.Base
attribute [local go_sem] bt_eq

def abT : List ByteArray := [⟨#[97]⟩, ⟨#[98]⟩]
theorem gather_app (t : ByteArray) (L : List Rl) (r : Rl) : gathersF t (L ++ [r]) = gatherF t (gathersF t L) r := by
  unfold gathersF; rw [List.foldl_append]; rfl
theorem firstO_none {α β : Type} (f : α → Option β) : ∀ l : List α, (∀ x ∈ l, f x = none) → firstO f l = none
  | [], _ => rfl
  | a :: l, h => by
    rw [firstO, h a (by simp)]
    exact firstO_none f l (fun x hx => h x (by simp [hx]))
theorem ab_of : ofR (bs [98]) ⟨(none, 0, abT), (none, 0, []), (none, 0, [])⟩ = true := by kernel_rfl
theorem ab_plain : plainR abT = true := by kernel_rfl
theorem ofR_tg {t : ByteArray} {r r' : Rl} (h : r.tg.2.2 = r'.tg.2.2) : ofR t r = ofR t r' := by unfold ofR; rw [h]
/-- where all rules are of a and b, no other rule fits -/
theorem gath_plan (S : St) (cwd : Ln.T) {L : List Rl} (hab : ∀ r ∈ L, r.tg.2.2 = abT) : planF S cwd L [98] = gathersF (bs [98]) L := by
  unfold planF
  rw [if_neg (by rw [show specT [98] = false by kernel_rfl]; simp)]
  split
  · refine fits_3 (firstO_none _ _ fun r hr => ?_) (firstO_none _ _ fun r hr => ?_)
    · unfold pat1
      rw [hab r hr, if_pos ab_plain]
    · unfold suf1
      split
      · rfl
      · exact sufO_3 (by rw [hab r hr]; simp [abT])
  · rfl
/-- what the rules and the law's own list say of each other -/
structure GA (L : List Rl) (want : List ByteArray) (lst : ByteArray) (i : Nat) : Prop where
  len : L.length = i
  ab : ∀ r ∈ L, r.tg.2.2 = abT ∧ r.nd.2.2.length ≤ 6
  g : gathersF (bs [98]) L = ⟨want, if lst = ⟨#[]⟩ then [] else [lst], [], decide (0 < i)⟩
  wl : want.length ≤ 6 * i
theorem GA.nil : GA [] [] ⟨#[]⟩ 0 := ⟨rfl, fun r h => (by cases h), rfl, by simp⟩
theorem GA.step {L : List Rl} {want : List ByteArray} {lst lst' : ByteArray} {i : Nat} (h : GA L want lst i) (r : Rl) (ht : r.tg.2.2 = abT) (hn : r.nd.2.2.length ≤ 6) (hr : (r.rc.2.2 = [lst'] ∧ lst' ≠ ⟨#[]⟩) ∨ (r.rc.2.2 = [] ∧ lst' = lst)) : GA (L ++ [r]) (needsF want r.nd.2.2) lst' (i + 1) := by
  refine ⟨by rw [List.length_append, h.len]; rfl, fun x hx => ?_, ?_, ?_⟩
  · rcases List.mem_append.1 hx with hx | hx
    · exact h.ab x hx
    · obtain rfl := List.mem_singleton.1 hx
      exact ⟨ht, hn⟩
  · rw [gather_app, h.g]
    unfold gatherF
    rw [if_pos ((ofR_tg (by rw [ht])).trans ab_of)]
    rcases hr with ⟨h1, h2⟩ | ⟨h1, rfl⟩
    · simp [h1, h2]
    · simp [h1]
  · have := needsF_len r.nd.2.2 want
    have := h.wl
    omega
theorem GA.special {L : List Rl} {want : List ByteArray} {lst : ByteArray} {i : Nat} (h : GA L want lst i) : (specialR L (bs [98])).length ≤ 6 * i := by
  have h1 := h.len
  have h2 := h.ab
  subst h1
  clear h
  induction L with
  | nil => simp [specialR]
  | cons r L ih =>
    have := ih (fun x hx => h2 x (by simp [hx]))
    have h3 := (h2 r (by simp)).2
    have : specialR (r :: L) (bs [98]) = (if ofR (bs [98]) r = true then r.nd.2.2 else []) ++ specialR L (bs [98]) := by unfold specialR; rw [List.flatMap_cons]
    rw [this, List.length_append, List.length_cons]
    split <;> simp <;> omega
theorem ab_knowns {L : List Rl} (h : ∀ r ∈ L, r.tg.2.2 = abT) : (knownsF L).length = 2 * L.length := by
  induction L with
  | nil => rfl
  | cons r L ih =>
    have := ih (fun x hx => h x (by simp [hx]))
    have e : knownsF (r :: L) = (if plainR r.tg.2.2 = true then r.tg.2.2 else []) ++ knownsF L := by unfold knownsF; rw [List.flatMap_cons]
    rw [e, List.length_append, this, h r (by simp), if_pos ab_plain, List.length_cons]
    simp [abT]
    omega
theorem ab_suffixes {L : List Rl} (h : ∀ r ∈ L, r.tg.2.2 = abT) : specialR L suffixes = [] := by
  unfold specialR
  rw [List.flatMap_eq_nil_iff]
  intro r hr
  rw [if_neg]
  rw [ofR_tg (r' := ⟨(none, 0, abT), (none, 0, []), (none, 0, [])⟩) (h r hr)]
  rw [show ofR suffixes ⟨(none, 0, abT), (none, 0, []), (none, 0, [])⟩ = false by kernel_rfl]
  simp
theorem any_take {L : List ByteArray} {y x : ByteArray} {k : Nat} (h : L[k]? = some x) : (L.take (k + 1)).any (fun s => decide (s = y)) = ((L.take k).any (fun s => decide (s = y)) || decide (x = y)) := by
  rw [List.take_add_one, h, List.any_append]
  simp
theorem any_contains (L : List ByteArray) (y : ByteArray) : L.any (fun s => decide (s = y)) = Lib.containsS L y := by
  rw [Bool.eq_iff_iff, Lib.containsS_iff]
  simp
/-- two texts at a new row's address -/
theorem sr_two {W : World} {g : Nat} {s t : ByteArray} (h : W.heap[g]? = some (.cells #[.string s, .string t] 9)) : SR W (some ⟨g, 0, none⟩) [s, t] := by
  intro k x hk
  match k, hk with
  | 0, hk =>
    simp at hk
    subst hk
    exact ⟨_, _, rfl, (Array.getElem?_eq_some_iff.1 h).1, cellOf h rfl⟩
  | 1, hk =>
    simp at hk
    subst hk
    exact ⟨_, _, rfl, (Array.getElem?_eq_some_iff.1 h).1, cellOf h rfl⟩
  | k + 2, hk => simp at hk
theorem SLR.below {w w' : World} {A : Option Addr} {L : List SRow} (h : SLR w A L) (hb : Below w.heap.size w w') : SLR w' A L := fun k x hk => by
  obtain ⟨g, o, cs, e, hg, h1, h2, h3⟩ := h k x hk
  exact ⟨g, o, cs, e, Nat.lt_of_lt_of_le hg hb.size, h1, fun j v hj => (hb.cell (p := ⟨g, o + k * 1 + j, none⟩) hg).trans (h2 j v hj), h3.1, h3.2.1.below hb, h3.2.2⟩
theorem WantA.sr {v : Value} {l : List ByteArray} {X : AsnN} {B : Nat} {w0 w : World} (h : InvN (sep X (WantA v l)) B w0 w) : ∃ A c, v = .slice A l.length c ∧ SR w A l := by
  obtain ⟨T, N, ⟨ho, _⟩, _⟩ := h.snd
  obtain ⟨A, c, e, _, hs, _⟩ := ho.slice
  exact ⟨A, c, e, hs⟩
set_option linter.unusedSimpArgs false in
set_option maxRecDepth 100000 in
set_option maxHeartbeats 8000000 in
theorem law_findGathers (A : Option Addr) (c : Nat) (LL : List SRow) (B : Option Addr) (d : Nat) (D : List Bool) (hl : LL.length ≤ maxLen) (hv : ∀ x ∈ LL, x.2.2.length ≤ maxLen) (hl2 : D.length ≤ maxLen) (_hv2 : True) (w : World) (hm : MX w) (hA : SLR w A LL) (hB : BR w B D) :
    Calls Tryd.prog 5 #[.slice A LL.length c, .slice B D.length d] w fun e w' => e = .returned (.bool true) ∧ Below w.heap.size w w' := by
  unfold maxLen at hl hl2 hv
  have HA := hide hA
  have HB := hide hB
  have HV := hide hv
  have HM := hide hm
  clear hA hB hv hm
  obtain ⟨n, hn⟩ : ∃ n, LL.length = n := ⟨_, rfl⟩
  obtain ⟨m, hdm⟩ : ∃ n, D.length = n := ⟨_, rfl⟩
  rw [hn] at hl ⊢
  rw [hdm] at hl2 ⊢
  have HN := hide hn
  have HD := hide hdm
  clear hn hdm
  go_enter Tryd.func5, Tryd.ntmps5
  go_wp2_with fail
  refine (alive21_any w HM.out).mono ?_
  rintro e w1 ⟨rfl, hb1⟩
  have HB1 := hide hb1
  clear hb1
  by_cases c1 : 8 < n
  · have d1 : decide ((8 : Int) < (n : Int)) = true := by simp; omega
    go_wp2
    go_ret
    exact ⟨rfl, HB1.out⟩
  have d1 : decide ((8 : Int) < (n : Int)) = false := by simp; omega
  by_cases c2 : m < n
  · have d2 : decide ((m : Int) < (n : Int)) = true := by simp; omega
    go_wp2
    go_ret
    exact ⟨rfl, HB1.out⟩
  have d2 : decide ((m : Int) < (n : Int)) = false := by simp; omega
  have HMK0 := hide (MKA.new (B := w.heap.size) HB1.out HB1.out.size)
  have hgm0 : w.heap.size ≤ w1.heap.size := HB1.out.size
  go_wp2
  obtain ⟨W, hW⟩ : ∃ W, w1.alloc (.cells #[.slice none 0 0, .slice none 0 0] 27) = W := ⟨_, rfl⟩
  rw [hW] at HMK0 ⊢
  obtain ⟨gm, hgm⟩ : ∃ g, w1.heap.size = g := ⟨_, rfl⟩
  rw [hgm] at HMK0 hgm0 ⊢
  clear hW hgm HB1
  have hn8 : n ≤ 8 := by omega
  have hni : (n : Int) ≤ 8 := by omega
  go_loopw [7, 8, 9, 10, 11, 12, 13] (fun v7 v8 v9 _ _ _ _ wr => ∃ (i : Nat) (L : List Rl) (want : List ByteArray) (lst : ByteArray), v8 = .string lst ∧ v9 = .int .i64 i ∧ i ≤ n ∧ InvN (sep (MKA w.heap.size gm L) (WantA v7 want)) w.heap.size w wr ∧ GA L want lst i) (fun _ _ v9 _ _ _ _ _ => n - (intOf v9).toNat)
  case atStart =>
    obtain ⟨T, N, h1, ok, h2, h3⟩ := HMK0.out
    exact ⟨0, [], [], ⟨#[]⟩, rfl, rfl, by omega, ⟨T, N, ⟨T, fun _ => False, h1, WantA.nil _ _ _, fun _ h => h, fun _ h => h.elim, fun _ _ h => h⟩, ok, h2, h3⟩, GA.nil⟩
  case round =>
    obtain ⟨i, L, want, lst, rfl, rfl, hi, hinv, hga⟩ := hrel
    generalize wr = wo at *
    have HI := hide hinv
    have HG := hide hga
    have hbo := hinv.below
    have HBO := hide hbo
    have HAR := hide (HA.out.below hbo)
    have HBR := hide (HB.out.below hbo)
    obtain ⟨Aw, cw, rfl, hsw⟩ := WantA.sr hinv
    clear hinv hga hbo
    by_cases hlt : i < n
    · obtain ⟨x, hx⟩ : ∃ x, LL[i]? = some x := ⟨LL[i]'(by have := HN.out; omega), List.getElem?_eq_getElem _⟩
      obtain ⟨b0, hb0⟩ : ∃ x, D[i]? = some x := ⟨D[i]'(by have := HD.out; omega), List.getElem?_eq_getElem _⟩
      obtain ⟨ga, oa, rfl, hga, hca, hsx⟩ := HAR.out.at hx
      obtain ⟨gb, ob, rfl, hgb, hcb⟩ := HBR.out i b0 hb0
      have hxm := HV.out x (List.mem_of_getElem? hx)
      have HX := hide hx
      obtain ⟨xA, xc, xL⟩ := x
      have HSX0 := hide (show SR w xA xL by obtain ⟨_, _, _, _, _, h⟩ := HA.out.at hx; exact h)
      unfold sv at hca
      dsimp only at hca hsx hxm
      have HSX := hide hsx
      obtain ⟨q, hq⟩ : ∃ q, xL.length = q := ⟨_, rfl⟩
      have HQ := hide hq
      rw [hq] at hca hxm
      have b1 : (i : Int) < (n : Int) := by omega
      clear hx hb0 hsx hq
      by_cases c3 : 6 < q
      · have d3 : decide ((6 : Int) < (q : Int)) = true := by simp; omega
        go_wp2
        go_ret
        exact ⟨rfl, HBO.out⟩
      have d3 : decide ((6 : Int) < (q : Int)) = false := by simp; omega
      have hab := heapNew wo (.cells #[.string ⟨#[97]⟩, .string ⟨#[98]⟩] 9)
      have hba := (Below.refl wo.heap.size wo).alloc (Nat.le_refl _) (.cells #[.string ⟨#[97]⟩, .string ⟨#[98]⟩] 9)
      have hbb := hba.alloc (by simp) (.cells #[.slice (some ⟨wo.heap.size, 0, none⟩) 2 2, .slice xA q xc, .slice none 0 0] 33)
      have hrb := heapNew (wo.alloc (.cells #[.string ⟨#[97]⟩, .string ⟨#[98]⟩] 9)) (.cells #[.slice (some ⟨wo.heap.size, 0, none⟩) 2 2, .slice xA q xc, .slice none 0 0] 33)
      rw [show (wo.alloc (.cells #[.string ⟨#[97]⟩, .string ⟨#[98]⟩] 9)).heap.size = wo.heap.size + 1 by simp] at hrb
      have hab2 : ((wo.alloc (.cells #[.string ⟨#[97]⟩, .string ⟨#[98]⟩] 9)).alloc (.cells #[.slice (some ⟨wo.heap.size, 0, none⟩) 2 2, .slice xA q xc, .slice none 0 0] 33)).heap[wo.heap.size]? = _ := (Below.heap_alloc _ _ _ (by simp)).trans hab
      have hsz2 : ((wo.alloc (.cells #[.string ⟨#[97]⟩, .string ⟨#[98]⟩] 9)).alloc (.cells #[.slice (some ⟨wo.heap.size, 0, none⟩) 2 2, .slice xA q xc, .slice none 0 0] 33)).heap.size = wo.heap.size + 1 + 1 := by simp
      go_upto_if 52 with (fail)
      obtain ⟨W2, hW2⟩ : ∃ W, ((wo.alloc (.cells #[.string ⟨#[97]⟩, .string ⟨#[98]⟩] 9)).alloc (.cells #[.slice (some ⟨wo.heap.size, 0, none⟩) 2 2, .slice xA q xc, .slice none 0 0] 33)) = W := ⟨_, rfl⟩
      rw [hW2] at hbb hrb hab2 hsz2 ⊢
      have HBB := hide hbb
      have HRB := hide hrb
      have HAB := hide hab2
      clear hab hba hbb hrb hab2 hW2 hca hcb
      go_cut [8] from 53 to 58 (fun s8 wx => ∃ (lst' : ByteArray) (rA : Option Addr) (rl rcc : Nat) (rL : List ByteArray), s8 = .string lst' ∧ Below wo.heap.size wo wx ∧ wx.heap[wo.heap.size]? = some (.cells #[.string ⟨#[97]⟩, .string ⟨#[98]⟩] 9) ∧ wx.heap[wo.heap.size + 1]? = some (.cells #[.slice (some ⟨wo.heap.size, 0, none⟩) 2 2, .slice xA q xc, .slice rA rl rcc] 33) ∧ rL.length = rl ∧ SR wx rA rL ∧ (∀ a, rA = some a → rL ≠ [] → wo.heap.size ≤ a.block ∧ a.block < wx.heap.size) ∧ ((rL = [lst'] ∧ lst' ≠ ⟨#[]⟩) ∨ (rL = [] ∧ lst' = lst)))
      case first =>
        cases b0 with
        | false =>
          go_wp2
          go_meet
          exact ⟨lst, none, 0, 0, [], rfl, HBB.out, HAB.out, HRB.out, rfl, SR.nil _ _, fun a e => (by cases e), .inr ⟨rfl, rfl⟩⟩
        | true =>
          have HDG := hide (fun W => digits_any i W (by omega))
          have hdl := dgL_len i 2 (by omega)
          have hdp := dgL_pos i
          have hds := ds_size (dgL i)
          obtain ⟨dg, hdg⟩ : ∃ d, ds (dgL i) = d := ⟨_, rfl⟩
          rw [hdg] at HDG hds
          have hz2 := freeOf HRB.out 2
          have hy2 := cellOf HRB.out (j := 2) (v := .slice none 0 0) rfl
          have hne : (⟨#[114]⟩ ++ dg : ByteArray) ≠ ⟨#[]⟩ := by
            intro e
            have := congrArg ByteArray.size e
            rw [ByteArray.size_append] at this
            have h0 : (⟨#[114]⟩ : ByteArray).size = 1 := rfl
            have h1 : (⟨#[]⟩ : ByteArray).size = 0 := rfl
            omega
          have hks := kp_set (w := W2) (g := wo.heap.size + 1) (j := 2) (v := .slice (some ⟨wo.heap.size + 1 + 1, 0, none⟩) 1 1)
          have hrb3 : (W2.setCell ⟨wo.heap.size + 1, 2, none⟩ (.slice (some ⟨wo.heap.size + 1 + 1, 0, none⟩) 1 1)).heap[wo.heap.size + 1]? = some (.cells #[.slice (some ⟨wo.heap.size, 0, none⟩) 2 2, .slice xA q xc, .slice (some ⟨wo.heap.size + 1 + 1, 0, none⟩) 1 1] 33) := by rw [heapSet HRB.out]; rfl
          have hab3 := (hks.block wo.heap.size (by omega) (by omega)).trans HAB.out
          have hsz3 : (W2.setCell ⟨wo.heap.size + 1, 2, none⟩ (.slice (some ⟨wo.heap.size + 1 + 1, 0, none⟩) 1 1)).heap.size = wo.heap.size + 1 + 1 := by simp; omega
          have HBL3 := hide (hks.below HBB.out (Nat.le_refl _) (fun k e => by omega))
          obtain ⟨W4, hW4⟩ : ∃ W, W2.setCell ⟨wo.heap.size + 1, 2, none⟩ (.slice (some ⟨wo.heap.size + 1 + 1, 0, none⟩) 1 1) = W := ⟨_, rfl⟩
          have HW4 := hide hW4
          rw [hW4] at hrb3 hab3 hsz3 HBL3
          have hnew := heapNew W4 (.cells #[.string (⟨#[114]⟩ ++ dg)] 9)
          rw [hsz3] at hnew
          have hba2 := (Below.refl W4.heap.size W4).alloc (Nat.le_refl _) (.cells #[.string (⟨#[114]⟩ ++ dg)] 9)
          have HFIN := hide (show ∃ (lst' : ByteArray) (rA : Option Addr) (rl rcc : Nat) (rL : List ByteArray), Value.string (⟨#[114]⟩ ++ dg) = .string lst' ∧ Below wo.heap.size wo (W4.alloc (.cells #[.string (⟨#[114]⟩ ++ dg)] 9)) ∧ (W4.alloc (.cells #[.string (⟨#[114]⟩ ++ dg)] 9)).heap[wo.heap.size]? = some (.cells #[.string ⟨#[97]⟩, .string ⟨#[98]⟩] 9) ∧ (W4.alloc (.cells #[.string (⟨#[114]⟩ ++ dg)] 9)).heap[wo.heap.size + 1]? = some (.cells #[.slice (some ⟨wo.heap.size, 0, none⟩) 2 2, .slice xA q xc, .slice rA rl rcc] 33) ∧ rL.length = rl ∧ SR (W4.alloc (.cells #[.string (⟨#[114]⟩ ++ dg)] 9)) rA rL ∧ (∀ a, rA = some a → rL ≠ [] → wo.heap.size ≤ a.block ∧ a.block < (W4.alloc (.cells #[.string (⟨#[114]⟩ ++ dg)] 9)).heap.size) ∧ ((rL = [lst'] ∧ lst' ≠ ⟨#[]⟩) ∨ (rL = [] ∧ lst' = lst)) from by
            refine ⟨_, some ⟨wo.heap.size + 1 + 1, 0, none⟩, 1, 1, [⟨#[114]⟩ ++ dg], rfl, below_up HBL3.out hba2 (by omega), (hba2.block wo.heap.size (by omega)).trans hab3, (hba2.block (wo.heap.size + 1) (by omega)).trans hrb3, rfl, sr_one hnew, fun a e _ => ?_, .inl ⟨rfl, hne⟩⟩
            injection e with e
            subst e
            simp
            omega)
          rw [← HW4.out] at HFIN
          clear hnew hba2 hrb3 hab3 hne hks hsz3 HBL3 hW4 HW4
          go_wp2_with fail
          refine (HDG.out W2).mono ?_
          rintro e w' ⟨rfl, rfl⟩
          go_wp2
          go_meet
          exact HFIN.out
      case rest =>
        obtain ⟨lst', rA, rl, rcc, rL, rfl, hbx, habx, hrbx, hrl, hsr, hrb, hcase⟩ := hcut
        generalize wc = wx at *
        have hwb := HBO.out.size
        obtain ⟨r, hr⟩ : ∃ r : Rl, r = ⟨(some ⟨wo.heap.size, 0, none⟩, 2, abT), (xA, xc, xL), (rA, rcc, rL)⟩ := ⟨_, rfl⟩
        have hxl : wo.heap.size < wx.heap.size := (Array.getElem?_eq_some_iff.1 habx).1
        have hrok : RlOk wx r := by
          rw [hr]
          exact ⟨sr_two habx, HSX.out.below hbx, hsr, by simp [abT], by dsimp only; have := HQ.out; omega, by dsimp only; rcases hcase with ⟨h, _⟩ | ⟨h, _⟩ <;> rw [h] <;> simp⟩
        have hgs := HG.out.step r (lst' := lst') (by rw [hr]) (by rw [hr]; dsimp only; have := HQ.out; omega) (by rw [hr]; exact hcase)
        obtain ⟨T, N, hmk, ok, ht, close⟩ := HI.out.opn (WantA.fr _ _) (Nat.le_refl _)
        have hLn : L.length ≤ 900000 := by have := HG.out.len; omega
        have hrn : RlN (fun k => N k ∨ (wo.heap.size ≤ k ∧ k < wx.heap.size)) r := by
          obtain ⟨_, _, _, _, _, hN, _⟩ := hmk
          rw [hr]
          refine ⟨fun a e _ => .inr ?_, fun a e hne => .inl (hN _ (HSX0.out.lt e hne)), fun a e hne => .inr (hrb a e hne)⟩
          injection e with e
          subst e
          exact ⟨Nat.le_refl _, hxl⟩
        obtain ⟨Am, cm, v', W', em1, em2, hrun, ⟨A', c', rfl⟩, em4, T', N', hmk', hg', hk'⟩ := hmk.app ok hbx r hrok hrn hLn
        have HI2 := hide (close _ _ _ _ hmk' hg' hk')
        have hrun' : (Builtin.append_ #[25, 25] 25 #[.slice Am L.length cm, .slice (some ⟨wx.heap.size, 0, none⟩) 1 1]).run Tryd.prog (wx.alloc (.cells #[.slice (some ⟨wo.heap.size, 0, none⟩) 2 2, .slice xA q xc, .slice rA rl rcc] 33)) = .ok (.slice A' (L.length + 1) c') W' := by
          rw [hr] at hrun
          simp only [sv] at hrun
          rw [HQ.out, hrl] at hrun
          exact hrun
        have HG0 := hide (show want.length ≤ 6 * n from by have := HG.out.wl; omega)
        have HGS := hide (show GA (L ++ [r]) (needsF want xL) lst' (i + 1) by rw [hr] at hgs ⊢; exact hgs)
        have hx0 := cellOf hrbx (j := 0) (v := .slice (some ⟨wo.heap.size, 0, none⟩) 2 2) rfl
        have hx1 := cellOf hrbx (j := 1) (v := .slice xA q xc) rfl
        have hx2 := cellOf hrbx (j := 2) (v := .slice rA rl rcc) rfl
        have hm1 := cellOf em2 (j := 1) (v := .slice Am L.length cm) rfl
        have hm4 := cellOf em4 (j := 1) (v := .slice Am L.length cm) rfl
        have hz4 := freeOf em4 1
        clear hr hrok hgs hmk ok ht close hrn em1 em2 hrun em4 hmk' hg' hk' habx hrbx hsr hrb hcase hbx HI HG
        go_wp2_with (at_builtin; refine wpList_app_run ?_ (.tmp 60) (.tmp 62) ?_ ?_ ?_ ?_ hrun' ?_; exact rfl; exact rfl; exact rfl; exact rfl; exact rfl)
        obtain ⟨W3, hW3⟩ : ∃ W, W'.setCell ⟨gm, 1, none⟩ (.slice A' (L.length + 1) c') = W := ⟨_, rfl⟩
        rw [hW3] at HI2 ⊢
        clear hW3 hrun' hx0 hx1 hx2 hm1 hm4 hz4
        go_loopw [7, 11, 12, 13] (fun v7 v11 _ _ wr => ∃ (k : Nat) (want2 : List ByteArray), v11 = .int .i64 k ∧ k ≤ q ∧ Hid (want2 = needsF want (xL.take k)) ∧ InvN (sep (MKA w.heap.size gm (L ++ [r])) (WantA v7 want2)) w.heap.size w wr) (fun _ v11 _ _ _ => q - (intOf v11).toNat)
        case atStart => exact ⟨0, want, rfl, by omega, rfl, HI2.out⟩
        case round =>
          obtain ⟨k, want2, rfl, hk, HW2, hinv⟩ := hrel
          generalize wr = w3 at *
          have HI3 := hide hinv
          have hb3 := hinv.below
          have HB3 := hide hb3
          have HAR3 := hide (HA.out.below hb3)
          obtain ⟨A2, c2, rfl, hs2⟩ := WantA.sr hinv
          have HS2 := hide hs2
          have HA2 := hide (show xL.length = q from HQ.out)
          obtain ⟨_, _, hga0, hga3, hca3, hsx3⟩ := HAR3.out.at HX.out
          cases hga0
          unfold sv at hca3
          dsimp only at hca3 hsx3
          rw [HQ.out] at hca3
          have HSX3 := hide hsx3
          clear hinv hb3 hs2 hsx3
          have hwl : want2.length ≤ 1000 := by
            have := HGS.out.wl
            have h1 := needsF_len (xL.take k) want
            rw [← HW2.out, List.length_take] at h1
            have h2 := HG0.out
            omega
          by_cases hlt2 : k < q
          · obtain ⟨y, hy⟩ : ∃ y, xL[k]? = some y := ⟨xL[k]'(by have := HQ.out; omega), List.getElem?_eq_getElem _⟩
            obtain ⟨gy, oy, rfl, hgy, hcy⟩ := HSX3.out k y hy
            have HY := hide hy
            have b2 : (k : Int) < (q : Int) := by omega
            obtain ⟨wl, hwl2⟩ : ∃ l, want2.length = l := ⟨_, rfl⟩
            have HWL := hide hwl2
            rw [hwl2] at hwl ⊢
            clear hy hwl2
            have hwli : (wl : Int) ≤ 1000 := by omega
            go_wp2
            go_loopw [12, 13] (fun v12 v13 wr => ∃ j : Nat, v12 = .bool ((want2.take j).any (fun s => decide (s = y))) ∧ v13 = .int .i64 j ∧ j ≤ wl ∧ Drew w3 wr) (fun _ v13 _ => wl - (intOf v13).toNat)
            case atStart => exact ⟨0, rfl, rfl, by omega, Drew.refl _⟩
            case round =>
              obtain ⟨j, rfl, rfl, hj, hdr⟩ := hrel
              have HDR := hide hdr
              have hbd : Below w3.heap.size w3 wr := by
                obtain ⟨nd, rfl⟩ := hdr
                exact below_drewN (Below.refl w3.heap.size w3) nd
              have hca4 := (hbd.cell (p := ⟨ga, oa + i, none⟩) hga3).trans hca3
              have hcy4 := (hbd.cell (p := ⟨gy, oy + k, none⟩) hgy).trans hcy
              have hs4 := HS2.out.below hbd
              have HS4 := hide hs4
              have HBD := hide hbd
              clear hs4 hbd hdr
              by_cases hlt3 : j < wl
              · obtain ⟨z, hz⟩ : ∃ z, want2[j]? = some z := ⟨want2[j]'(by have := HWL.out; omega), List.getElem?_eq_getElem _⟩
                obtain ⟨gz, oz, rfl, hgz, hcz⟩ := HS4.out j z hz
                have HAT := hide (any_take (y := y) hz)
                have b3 : (j : Int) < (wl : Int) := by omega
                obtain ⟨q1, hq1⟩ : ∃ q, (want2.take j).any (fun s => decide (s = y)) = q := ⟨_, rfl⟩
                rw [hq1] at HAT ⊢
                clear hz hq1
                cases q1 with
                | true =>
                  go_wp2
                  go_quiet (fail)
                  go_wp2
                  go_roundw
                  case rel => exact ⟨j + 1, by rw [HAT.out]; rfl, by go_num, by omega, HDR.out.more _⟩
                  case measure => simp [intOf]; omega
                | false =>
                  by_cases he : z = y
                  · subst he
                    have HAT2 := hide (show (want2.take (j + 1)).any (fun s => decide (s = z)) = true by rw [HAT.out]; simp)
                    go_wp2
                    go_quiet (fail)
                    go_wp2
                    go_roundw
                    case rel => exact ⟨j + 1, by rw [HAT2.out], by go_num, by omega, HDR.out.more _⟩
                    case measure => simp [intOf]; omega
                  · have hne := txt_ne he
                    have HAT2 := hide (show (want2.take (j + 1)).any (fun s => decide (s = y)) = false by rw [HAT.out]; simp [he])
                    clear he
                    go_wp2
                    go_quiet (fail)
                    go_wp2
                    go_roundw
                    case rel => exact ⟨j + 1, by rw [HAT2.out], by go_num, by omega, HDR.out.more _⟩
                    case measure => simp [intOf]; omega
              · obtain rfl : wl = j := by omega
                have hany : (want2.take wl).any (fun s => decide (s = y)) = Lib.containsS want2 y := by rw [List.take_of_length_le (by have := HWL.out; omega), any_contains]
                obtain ⟨cb, hcb⟩ : ∃ b, Lib.containsS want2 y = b := ⟨_, rfl⟩
                have hst := needsF_take (l := want) HY.out
                rw [← HW2.out] at hst
                unfold needF at hst
                rw [hcb] at hany hst
                rw [hany]
                have hi4 := HI3.out.step (FrN.join (MKA.fr _ _ _) (WantA.fr _ _)) HBD.out (Nat.le_refl _)
                rw [HWL.out] at hi4
                cases cb with
                | true =>
                  have HST := hide (hst.trans (if_pos rfl)).symm
                  have HI4 := hide hi4
                  clear hany hst hi4 hcb
                  go_wp2
                  go_roundw
                  case rel => exact ⟨k + 1, want2, by go_num, by omega, HST.out, HI4.out⟩
                  case measure => simp [intOf]; omega
                | false =>
                  have HST := hide (hst.trans (if_neg (by simp))).symm
                  obtain ⟨T, N, hw, ok, ht, close⟩ := hi4.comm.opn (MKA.fr _ _ _) (Nat.le_refl _)
                  obtain ⟨v4, w4, r4, T', hw4, hg4, hk4⟩ := hw.app ok y (by have := HWL.out; omega)
                  have HI5 := hide (close _ _ _ _ hw4 hg4 hk4).comm
                  clear hany hst hi4 hcb hw ok ht close hw4 hg4 hk4
                  go_wp2_with (at_builtin; refine wpList_app_run ?_ (.tmp 97) (.tmp 105) ?_ ?_ ?_ ?_ r4 ?_; exact rfl; exact rfl; exact rfl; exact rfl; exact rfl)
                  go_roundw
                  case rel => exact ⟨k + 1, want2 ++ [y], by go_num, by omega, HST.out, HI5.out⟩
                  case measure => simp [intOf]; omega
          · obtain rfl : q = k := by omega
            have htk : xL.take q = xL := List.take_of_length_le (by have := HQ.out; omega)
            have hw2 := HW2.out
            rw [htk] at hw2
            subst hw2
            have hgs := HGS.out
            go_wp2
            go_roundw
            case rel => exact ⟨i + 1, L ++ [r], _, lst', rfl, by go_num, by omega, HI3.out, hgs⟩
            case measure => simp [intOf]; omega
    · obtain rfl : n = i := by omega
      obtain ⟨T, N, hmk, ok, ht, close⟩ := HI.out.opn (WantA.fr _ _) (Nat.le_refl _)
      obtain ⟨vr, h1, h2, h3, h4, h5, h6⟩ := hmk
      obtain ⟨Am, cm, rfl, _, hrg, _⟩ := h3.slice encRl_len
      have hm0 := cellOf h2 (j := 0) (v := .slice none 0 0) rfl
      have hm1 := cellOf h2 (j := 1) (v := .slice Am L.length cm) rfl
      have HRL := hide (show RLS wo Am L from ⟨hrg, fun r hr => (h6 r hr).1⟩)
      have hab : ∀ r ∈ L, r.tg.2.2 = abT := fun r hr => (HG.out.ab r hr).1
      have hkn := ab_knowns hab
      have hss := ab_suffixes hab
      have hsp := HG.out.special
      have hln := HG.out.len
      have HNW := hide (fun W => vnew_any 1 1 W (by omega) (by omega) (by omega) (by omega))
      have HPL := hide (fun gf W (hb : Below wo.heap.size wo W) (hv : Hs (VS gf (newS 1 1)) W) => plan_any { mac := .slice none 0 0, A := Am, c := cm, L := L, gf := gf, S := newS 1 1, cwd := [47], target := [98] } W ⟨HRL.out.below hb, hv, HM.out.below (below_up HBO.out hb HBO.out.size), by simp, by simp, by dsimp only; omega⟩
        ⟨fun r hr x hx => (by
          rw [hab r hr] at hx
          simp only [abT, List.mem_cons, List.not_mem_nil, or_false] at hx
          rcases hx with rfl | rfl <;> decide), fun r hr h => (by rw [hab r hr, ab_plain] at h; cases h), fun s hs => (by dsimp only at hs; rw [hss] at hs; cases hs), by dsimp only; omega, by dsimp only; rw [hss]; simp⟩ (by dsimp only; omega))
      dsimp only at HPL
      rw [gath_plan _ _ hab, HG.out.g] at HPL
      unfold PlanPost at HPL
      dsimp only at HPL
      rw [show bs [] = ⟨#[]⟩ from rfl] at HPL
      clear h1 h2 h3 h4 h5 h6 hrg ok ht close hab hkn hss hsp
      obtain ⟨rl, hrl⟩ : ∃ l : List ByteArray, (if lst = ⟨#[]⟩ then [] else [lst]) = l := ⟨_, rfl⟩
      rw [hrl] at HPL
      simp only [hln] at HPL hm1
      clear hln
      have HRLL := hide hrl
      have HM0 := hide hm0
      have HM1 := hide hm1
      clear hrl
      go_wp2_with fail
      go_cut [14] from 107 to 109 (fun s14 wx => ∃ (gp : Nat) (A8 : Option Addr) (l8 c8 : Nat) (A9 : Option Addr) (l9 c9 : Nat), s14 = .pointer (some ⟨gp, 0, none⟩) ∧ Below wo.heap.size wo wx ∧ wx.heap[gp]? = some (.cells #[.slice A8 l8 c8, .slice A9 l9 c9, .string ⟨#[]⟩, .bool (decide (0 < n))] 37) ∧ l8 = want.length ∧ SR wx A8 want ∧ l9 = rl.length ∧ SR wx A9 rl)
      case first =>
        have hbd0 : Below wo.heap.size wo wo.drew := (Below.refl _ _).drew
        have hbd1 : Below wo.heap.size wo wo := Below.refl _ _
        have HKEEP := hide (fun W (hb : Below wo.heap.size wo W) => show W.cell? ⟨gm, 0, none⟩ = some (.slice none 0 0) ∧ W.cell? ⟨gm, 1, none⟩ = some (.slice Am n cm) from ⟨(hb.cell (p := ⟨gm, 0, none⟩) (World.block_lt_of_cell? _ _ HM0.out)).trans HM0.out, (hb.cell (p := ⟨gm, 1, none⟩) (World.block_lt_of_cell? _ _ HM1.out)).trans HM1.out⟩)
        refine wp_region_held_drew (S := fun w' => w'.cell? ⟨gm, 0, none⟩ = some (.slice none 0 0) ∧ w'.cell? ⟨gm, 1, none⟩ = some (.slice Am n cm)) (by kernel_rfl) ⟨hm0, hm1⟩ (fun hHeld => ?_)
        refine wpAnyH_take (i := 0) (oi := _) (v := ?v0) rfl (by kernel_rfl) (by kernel_rfl) (by kernel_rfl) (fun _ _ _ h => h) (Or.inl ⟨by kernel_rfl, ?y0⟩) (by assumption) ?r0
        case y0 =>
          intro w hSw
          (try dsimp only at hSw)
          go_simp
          try with_reducible rfl
        try simp only [Act.put, List.setIfInBounds_toArray, List.set_cons_zero, List.set_cons_succ]
        refine wpAnyH_ready (rs := [1, 3]) (by kernel_rfl) (by simp) ?_
        refine AllReadyH.cons (o := _) rfl (fun K hK => ?_) (AllReadyH.cons (o := _) rfl (fun K hK => ?_) AllReadyH.nil)
        · rw [if_pos (by kernel_rfl)]
          go_simp
          refine (HNW.out _).mono ?_
          rintro e w5 ⟨rfl, hb5, hv5, hs5⟩
          have hbx5 := below_up hbd0 hb5 hbd0.size
          clear hs5
          have HVS := hide (hs_of hv5 ⟨fun k hk => ⟨hk.2, fun h => h⟩, fun k h => h.elim⟩)
          refine hK.out _ _ (HKEEP.out _ hbx5) (fun _ => ?_)
          clear hK K
          try simp only [Act.put, List.setIfInBounds_toArray, List.set_cons_zero, List.set_cons_succ]
          refine wpAnyH_ready (rs := [2, 3]) (by kernel_rfl) (by simp) ?_
          refine AllReadyH.cons (o := _) rfl (fun K hK => ?_) (AllReadyH.cons (o := _) rfl (fun K hK => ?_) AllReadyH.nil)
          · rw [if_pos (by kernel_rfl)]
            go_simp
            refine (HPL.out _ _ hbx5 HVS.out).mono ?_
            rintro e w7 ⟨vn, vr2, rfl, ho1, ho2, hb7⟩
            obtain ⟨A8, c8, rfl, _, s8, _⟩ := ho1.slice
            obtain ⟨A9, c9, rfl, _, s9, _⟩ := ho2.slice
            have hbx7 := below_up hbx5 hb7 hbx5.size
            refine hK.out _ _ (HKEEP.out _ hbx7) (fun _ => ?_)
            clear hK K
            try simp only [Act.put, List.setIfInBounds_toArray, List.set_cons_zero, List.set_cons_succ]
            refine wpAnyH_ready (rs := [3]) (by kernel_rfl) (by simp) ?_
            refine AllReadyH.cons (o := _) rfl (fun K hK => ?_) AllReadyH.nil
            rw [if_pos (by kernel_rfl)]
            go_simp
            have hbx8 := hbx7.alloc hbx7.size (.cells #[.slice none 0 0, .slice none 0 0, .string ⟨#[]⟩, .bool false] 37)
            refine hK.out _ _ (HKEEP.out _ hbx8) (fun _ => ?_)
            clear hK K
            have HFF := hide (And.intro (hbx7.alloc hbx7.size (.cells #[.slice A8 want.length c8, .slice A9 rl.length c9, .string ⟨#[]⟩, .bool (decide (0 < n))] 37)) (And.intro (heapNew w7 (.cells #[.slice A8 want.length c8, .slice A9 rl.length c9, .string ⟨#[]⟩, .bool (decide (0 < n))] 37)) (And.intro (ho1.alloc (.cells #[.slice A8 want.length c8, .slice A9 rl.length c9, .string ⟨#[]⟩, .bool (decide (0 < n))] 37)) (ho2.alloc (.cells #[.slice A8 want.length c8, .slice A9 rl.length c9, .string ⟨#[]⟩, .bool (decide (0 < n))] 37)))))
            try simp only [Act.put, List.setIfInBounds_toArray, List.set_cons_zero, List.set_cons_succ]
            refine wpAnyH_ready (rs := [4]) (by kernel_rfl) (by simp) ?_
            refine AllReadyH.cons (o := _) rfl (fun K hK => ?_) AllReadyH.nil
            rw [if_pos (by kernel_rfl)]
            go_simp
            refine hK.out _ _ (HKEEP.out _ HFF.out.1) (fun _ => ?_)
            clear hK K
            try simp only [Act.put, List.setIfInBounds_toArray, List.set_cons_zero, List.set_cons_succ]
            refine wpAnyH_done (by kernel_rfl) ?_ _
            go_wp2
            go_meet
            obtain ⟨Af, cf, ef, _, sf, _⟩ := HFF.out.2.2.1.slice
            obtain ⟨Ag, cg, eg, _, sg, _⟩ := HFF.out.2.2.2.slice
            cases ef
            cases eg
            exact ⟨_, A8, _, c8, A9, _, c9, rfl, HFF.out.1, HFF.out.2.1, rfl, sf, rfl, sg⟩
          · rw [if_pos (by kernel_rfl)]
            go_simp
            have hbx6 := hbx5.alloc hbx5.size (.cells #[.slice none 0 0, .slice none 0 0, .string ⟨#[]⟩, .bool false] 37)
            refine hK.out _ _ (HKEEP.out _ hbx6) (fun _ => ?_)
            clear hK K
            try simp only [Act.put, List.setIfInBounds_toArray, List.set_cons_zero, List.set_cons_succ]
            refine wpAnyH_ready (rs := [2]) (by kernel_rfl) (by simp) ?_
            refine AllReadyH.cons (o := _) rfl (fun K hK => ?_) AllReadyH.nil
            rw [if_pos (by kernel_rfl)]
            go_simp
            refine (HPL.out _ _ hbx6 (HVS.out.below (VS.fr _ _) ((Below.refl w5.heap.size w5).alloc (Nat.le_refl _) _))).mono ?_
            rintro e w7 ⟨vn, vr2, rfl, ho1, ho2, hb7⟩
            obtain ⟨A8, c8, rfl, _, s8, _⟩ := ho1.slice
            obtain ⟨A9, c9, rfl, _, s9, _⟩ := ho2.slice
            have hbx7 := below_up hbx6 hb7 hbx6.size
            refine hK.out _ _ (HKEEP.out _ hbx7) (fun _ => ?_)
            clear hK K
            obtain ⟨⟨q1, q2, q3, q4, q5, q6, q7, q8⟩, hgf, hkp⟩ := store4 ((hb7.block w5.heap.size (by simp)).trans (heapNew w5 (.cells #[.slice none 0 0, .slice none 0 0, .string ⟨#[]⟩, .bool false] 37))) (.slice A8 want.length c8) (.slice A9 rl.length c9) (.string ⟨#[]⟩) (.bool (decide (0 < n)))
            have ho1' := ho1.of (fun k e => hkp.block k (World.ownsRow.lt ho1 k e).2 (by have := (World.ownsRow.lt ho1 k e).1; simp at this; omega))
            have ho2' := ho2.of (fun k e => hkp.block k (World.ownsRow.lt ho2 k e).2 (by have := (World.ownsRow.lt ho2 k e).1; simp at this; omega))
            have hbf := hkp.below hbx7 (Nat.le_refl _) (fun k e => by subst e; have := hbx5.size; have := hbx7.size; omega)
            have HFF := hide (And.intro hbf (And.intro hgf (And.intro ho1' ho2')))
            clear hgf hkp ho1' ho2' hbf
            try simp only [Act.put, List.setIfInBounds_toArray, List.set_cons_zero, List.set_cons_succ]
            refine wpAnyH_ready (rs := [4]) (by kernel_rfl) (by simp) ?_
            refine AllReadyH.cons (o := _) rfl (fun K hK => ?_) AllReadyH.nil
            rw [if_pos (by kernel_rfl)]
            go_simp
            refine hK.out _ _ (HKEEP.out _ HFF.out.1) (fun _ => ?_)
            clear hK K
            try simp only [Act.put, List.setIfInBounds_toArray, List.set_cons_zero, List.set_cons_succ]
            refine wpAnyH_done (by kernel_rfl) ?_ _
            go_wp2
            go_meet
            obtain ⟨Af, cf, ef, _, sf, _⟩ := HFF.out.2.2.1.slice
            obtain ⟨Ag, cg, eg, _, sg, _⟩ := HFF.out.2.2.2.slice
            cases ef
            cases eg
            exact ⟨_, A8, _, c8, A9, _, c9, rfl, HFF.out.1, HFF.out.2.1, rfl, sf, rfl, sg⟩
        · rw [if_pos (by kernel_rfl)]
          go_simp
          have hbx6 := hbd1.alloc hbd1.size (.cells #[.slice none 0 0, .slice none 0 0, .string ⟨#[]⟩, .bool false] 37)
          refine hK.out _ _ (HKEEP.out _ hbx6.drew) (fun _ => ?_)
          clear hK K
          try simp only [Act.put, List.setIfInBounds_toArray, List.set_cons_zero, List.set_cons_succ]
          refine wpAnyH_ready (rs := [1]) (by kernel_rfl) (by simp) ?_
          refine AllReadyH.cons (o := _) rfl (fun K hK => ?_) AllReadyH.nil
          rw [if_pos (by kernel_rfl)]
          go_simp
          refine (HNW.out _).mono ?_
          rintro e w5 ⟨rfl, hb5, hv5, hs5⟩
          have hbx5 := below_up hbx6.drew hb5 hbx6.drew.size
          rw [show ((wo.alloc (.cells #[.slice none 0 0, .slice none 0 0, .string ⟨#[]⟩, .bool false] 37)).drew).heap.size = wo.heap.size + 1 by simp] at hv5
          clear hs5
          have HVS := hide (hs_of hv5 ⟨fun k hk => ⟨hk.2, fun h => h⟩, fun k h => h.elim⟩)
          refine hK.out _ _ (HKEEP.out _ hbx5) (fun _ => ?_)
          clear hK K
          try simp only [Act.put, List.setIfInBounds_toArray, List.set_cons_zero, List.set_cons_succ]
          refine wpAnyH_ready (rs := [2]) (by kernel_rfl) (by simp) ?_
          refine AllReadyH.cons (o := _) rfl (fun K hK => ?_) AllReadyH.nil
          rw [if_pos (by kernel_rfl)]
          go_simp
          refine (HPL.out _ _ hbx5 HVS.out).mono ?_
          rintro e w7 ⟨vn, vr2, rfl, ho1, ho2, hb7⟩
          obtain ⟨A8, c8, rfl, _, s8, _⟩ := ho1.slice
          obtain ⟨A9, c9, rfl, _, s9, _⟩ := ho2.slice
          have hbx7 := below_up hbx5 hb7 hbx5.size
          refine hK.out _ _ (HKEEP.out _ hbx7) (fun _ => ?_)
          clear hK K
          obtain ⟨⟨q1, q2, q3, q4, q5, q6, q7, q8⟩, hgf, hkp⟩ := store4 ((hb7.block wo.heap.size (by have := hb5.size; simp at this; omega)).trans ((hb5.block wo.heap.size (by simp)).trans (heapNew wo (.cells #[.slice none 0 0, .slice none 0 0, .string ⟨#[]⟩, .bool false] 37)))) (.slice A8 want.length c8) (.slice A9 rl.length c9) (.string ⟨#[]⟩) (.bool (decide (0 < n)))
          have ho1' := ho1.of (fun k e => hkp.block k (World.ownsRow.lt ho1 k e).2 (by have := (World.ownsRow.lt ho1 k e).1; have := hb5.size; simp at this; omega))
          have ho2' := ho2.of (fun k e => hkp.block k (World.ownsRow.lt ho2 k e).2 (by have := (World.ownsRow.lt ho2 k e).1; have := hb5.size; simp at this; omega))
          have hbf := hkp.below hbx7 (Nat.le_refl _) (fun k e => by subst e; have := hbx5.size; have := hbx7.size; omega)
          have HFF := hide (And.intro hbf (And.intro hgf (And.intro ho1' ho2')))
          clear hgf hkp ho1' ho2' hbf
          try simp only [Act.put, List.setIfInBounds_toArray, List.set_cons_zero, List.set_cons_succ]
          refine wpAnyH_ready (rs := [4]) (by kernel_rfl) (by simp) ?_
          refine AllReadyH.cons (o := _) rfl (fun K hK => ?_) AllReadyH.nil
          rw [if_pos (by kernel_rfl)]
          go_simp
          refine hK.out _ _ (HKEEP.out _ HFF.out.1) (fun _ => ?_)
          clear hK K
          try simp only [Act.put, List.setIfInBounds_toArray, List.set_cons_zero, List.set_cons_succ]
          refine wpAnyH_done (by kernel_rfl) ?_ _
          go_wp2
          go_meet
          obtain ⟨Af, cf, ef, _, sf, _⟩ := HFF.out.2.2.1.slice
          obtain ⟨Ag, cg, eg, _, sg, _⟩ := HFF.out.2.2.2.slice
          cases ef
          cases eg
          exact ⟨_, A8, _, c8, A9, _, c9, rfl, HFF.out.1, HFF.out.2.1, rfl, sf, rfl, sg⟩
      case rest =>
        obtain ⟨gp, A8, l8, c8, A9, l9, c9, rfl, hbx, hgp, rfl, hs8, rfl, hs9⟩ := hcut
        generalize wc = wx at *
        have HBX := hide (below_up HBO.out hbx HBO.out.size)
        have HS8 := hide hs8
        have HSW := hide (hsw.below hbx)
        have hwl := HG.out.wl
        have hy0 := cellOf hgp (j := 0) (v := .slice A8 want.length c8) rfl
        have hy1 := cellOf hgp (j := 1) (v := .slice A9 rl.length c9) rfl
        have hy2 := cellOf hgp (j := 2) (v := .string ⟨#[]⟩) rfl
        obtain ⟨q0, hq0⟩ : ∃ q, decide (0 < n) = q := ⟨_, rfl⟩
        have hy3 := cellOf hgp (j := 3) (v := .bool q0) (by rw [← hq0]; rfl)
        have hd0 : decide ((0 : Int) < (n : Int)) = q0 := by rw [← hq0, decide_eq_decide]; omega
        have HSM := hide (fun W (hb : Below wx.heap.size wx W) => same_any A8 Aw c8 cw want want W (HS8.out.below hb) (HSW.out.below hb) (by omega))
        rw [decide_eq_true (rfl : want = want)] at HSM
        clear hbx hgp hs8 hsw hwl HPL HNW HRL HG HI hm0 hm1
        by_cases hl0 : lst = ⟨#[]⟩
        · subst hl0
          have hrl := HRLL.out
          rw [if_pos rfl] at hrl
          subst hrl
          clear hs9
          simp only [List.length_nil] at hy1
          go_wp2_with fail
          refine (HSM.out wx (Below.refl _ _)).mono ?_
          rintro e w' ⟨rfl, hdr⟩
          have HDD := hide (show Below w.heap.size w w' by
            obtain ⟨nd, rfl⟩ := hdr
            exact below_drewN HBX.out nd)
          have hy2' : w'.cell? ⟨gp, 2, none⟩ = some (.string ⟨#[]⟩) := by
            obtain ⟨nd, rfl⟩ := hdr
            exact hy2
          clear hdr
          go_wp2
          go_ret
          exact ⟨rfl, HDD.out⟩
        · have hrl := HRLL.out
          rw [if_neg hl0] at hrl
          subst hrl
          obtain ⟨g9, o9, rfl, hg9, hc9⟩ := hs9 0 lst rfl
          rw [Nat.add_zero] at hc9
          have hem : lst.toList.isEmpty = false := by
            rw [ByteArray.toList_eq]
            cases h : lst.data.toList with
            | nil => exact absurd (by apply ByteArray.ext; apply Array.ext'; simpa using h) hl0
            | cons a l => rfl
          clear hs9 hl0
          simp only [List.length_cons, List.length_nil, Nat.zero_add] at hy1
          go_wp2_with fail
          refine (HSM.out wx (Below.refl _ _)).mono ?_
          rintro e w' ⟨rfl, hdr⟩
          have HDD := hide (show Below w.heap.size w w' by
            obtain ⟨nd, rfl⟩ := hdr
            exact below_drewN HBX.out nd)
          have hy2' : w'.cell? ⟨gp, 2, none⟩ = some (.string ⟨#[]⟩) := by
            obtain ⟨nd, rfl⟩ := hdr
            exact hy2
          clear hdr
          go_wp2
          go_ret
          exact ⟨rfl, HDD.out⟩
end Go.Proofs.YtmblmenafplccaaDoor
