/- Walk of chapter 22's alive; what graph.Order asks of a makefile and a file system. What graph.Order tells of the makefile of the law GraphRings. -/
import Derived.Test.YtmblmenafplccaaGreatDoorGraphWalkD
import Derived.Test.YtmblmenafplccaaGreatDoorVfsTA
import Derived.Test.YtmblmenafplccaaGreatDoorFindLawA
import Derived.Test.YtmblmenafplccaaGreatDoorStrsWalkB
import Derived.Test.YtmblmenafplccaaGreatDoorGraphMath
namespace Go.Proofs.YtmblmenafplccaaGreatDoor
open Go.RowKit Go.Deep Go.Maps Ln Pth Vf
set_option linter.unusedSimpArgs false
set_option linter.unusedVariables false
attribute [local go_sem] bt_eq

/-- a search, reckoned -/
def goF (P : ByteArray → Pn) (is : ByteArray → Bool) : Nat → ByteArray → Se → Option (Se × Nat)
  | 0, _, _ => none
  | f + 1, x, s => if (entF P is x s).1 = 0 then
      match popF (entF P is x s).2.way (entF P is x s).2.done with
      | (_, d, none) => some (⟨[], (entF P is x s).2.met, d⟩, 0)
      | (w, d, some n) => goF P is f n ⟨w, (entF P is x s).2.met, d⟩
    else some ((entF P is x s).2, (entF P is x s).1)
theorem goF_eq {P : ByteArray → Pn} {is : ByteArray → Bool} {x : ByteArray} {s r : Se} {e : Nat} (h : GoR P is x s r e) : ∀ f q, goF P is f x s = some q → q = (r, e) := by
  induction h with
  | err h1 h2 =>
    intro f q hq
    cases f with
    | zero => cases hq
    | succ f =>
      rw [goF, h1] at hq
      rw [if_neg h2] at hq
      exact (Option.some.inj hq).symm
  | fin h1 h2 =>
    intro f q hq
    cases f with
    | zero => cases hq
    | succ f =>
      rw [goF, h1] at hq
      rw [if_pos rfl] at hq
      dsimp only at hq
      rw [h2] at hq
      exact (Option.some.inj hq).symm
  | more h1 h2 h3 ih =>
    intro f q hq
    cases f with
    | zero => cases hq
    | succ f =>
      rw [goF, h1] at hq
      rw [if_pos rfl] at hq
      dsimp only at hq
      rw [h2] at hq
      exact ih f q hq
theorem orR_one {P : ByteArray → Pn} {is : ByteArray → Bool} {x : ByteArray} {s r : Se} {c : Nat} (h : OrR P is [x] s r c) : GoR P is x s r c := by
  cases h with
  | err h1 h2 => exact h1
  | cons h1 h2 =>
    cases h2 with
    | nil => exact h1
theorem gh_of (w : World) (mac : Value) (A : Option Addr) (c : Nat) (M : List Rl) (gf : Nat) (S : St) (cwd : T) (Gd : ByteArray → Prop) (hM : RLS w A M) (hv : Hs (VS gf S) w) (hm : MX w) (hc : cwd.length ≤ 90000) (hl : M.length ≤ 1000)
    (h1 : ∀ r ∈ M, ∀ x ∈ r.tg.2.2, x.size ≤ 10000) (h2 : ∀ r ∈ M, plainR r.tg.2.2 = false → ∀ x ∈ r.nd.2.2, x.size ≤ 10000) (h3 : ∀ s ∈ specialR M suffixes, s.size ≤ 10000) (h4 : (knownsF M).length ≤ 100000) (h5 : ∀ x, (specialR M x).length ≤ 100000)
    (hg : ∀ x, Gd x → x.size ≤ 10000) (hn : ∀ x, Gd x → ∀ y ∈ (planF S cwd M x.data.toList).needs, Gd y) (hnl : ∀ x, Gd x → (planF S cwd M x.data.toList).needs.length ≤ 900000) :
    GH w ⟨mac, .slice A M.length c, gf, bs cwd⟩ (fun x => planF S cwd M x.data.toList) (fun x => decide (kindT S cwd x.data.toList ≠ 0)) Gd := by
  refine ⟨fun W x hx hb => ?_, fun W x hx hb => ?_, hn, hnl, fun x hx => by have := hg x hx; omega⟩
  · have hs := hg x hx
    have := plan_any { mac := mac, A := A, c := c, L := M, gf := gf, S := S, cwd := cwd, target := x.data.toList } W ⟨hM.below hb, hv.below (VS.fr _ _) hb, hm.below hb, hc, by dsimp only; rw [data_len]; exact hs, hl⟩ ⟨h1, h2, h3, h4, h5 _⟩ (h5 _)
    dsimp only at this
    rw [bs_of] at this
    exact this
  · have hs := hg x hx
    have := is_any gf S cwd x.data.toList W (hv.below (VS.fr _ _) hb) (hm.below hb) (by omega) (by rw [data_len]; omega)
    rw [bs_of] at this
    exact this
theorem num22_any (n : Int) (w : World) : Calls Tryz.prog 14 #[.int .i64 n] w fun e w' => e = .returned (.int .i64 n) ∧ w = w' := by
  go_enter Tryz.func14, Tryz.ntmps14
  go_wp2
  go_ret
  exact ⟨rfl, rfl⟩
theorem sr_two (W : World) (s t : ByteArray) : SR (W.alloc (.cells #[.string s, .string t] 9)) (some ⟨W.heap.size, 0, none⟩) [s, t] := by
  have h := heapNew W (.cells #[.string s, .string t] 9)
  intro k x hk
  match k, hk with
  | 0, hk =>
    obtain rfl := Option.some.inj hk
    exact ⟨_, _, rfl, by simp, cellOf h rfl⟩
  | 1, hk =>
    obtain rfl := Option.some.inj hk
    exact ⟨_, _, rfl, by simp, cellOf h rfl⟩
  | k + 2, hk => simp at hk
def alM22 (w : World) : List Rl := [⟨(some ⟨w.heap.size, 0, none⟩, 1, [⟨#[97]⟩]), (some ⟨w.heap.size + 1, 0, none⟩, 1, [⟨#[98]⟩]), (none, 0, [])⟩]
def alW22 (w : World) : World := (((w.alloc (.cells #[.string ⟨#[97]⟩] 9)).alloc (.cells #[.string ⟨#[98]⟩] 9)).alloc (.cells #[.slice (some ⟨w.heap.size, 0, none⟩) 1 1, .slice (some ⟨w.heap.size + 1, 0, none⟩) 1 1, .slice none 0 0] 30)).alloc (.cells #[.slice none 0 0, .slice (some ⟨w.heap.size + 1 + 1, 0, none⟩) 1 1] 26)
theorem alW22_ok (w : World) : Below w.heap.size w (alW22 w) ∧ (alW22 w).heap[w.heap.size + 1 + 1 + 1]? = some (.cells #[.slice none 0 0, .slice (some ⟨w.heap.size + 1 + 1, 0, none⟩) 1 1] 26) ∧
    RLS (alW22 w) (some ⟨w.heap.size + 1 + 1, 0, none⟩) (alM22 w) := by
  have h0 : (alW22 w).heap[w.heap.size]? = some (.cells #[.string ⟨#[97]⟩] 9) := by
    unfold alW22
    rw [Below.heap_alloc _ _ _ (by simp <;> omega), Below.heap_alloc _ _ _ (by simp <;> omega), Below.heap_alloc _ _ _ (by simp)]
    exact heapNew _ _
  have h1 : (alW22 w).heap[w.heap.size + 1]? = some (.cells #[.string ⟨#[98]⟩] 9) := by
    unfold alW22
    rw [Below.heap_alloc _ _ _ (by simp <;> omega), Below.heap_alloc _ _ _ (by simp)]
    have := heapNew (w.alloc (.cells #[.string ⟨#[97]⟩] 9)) (.cells #[.string ⟨#[98]⟩] 9)
    simpa using this
  have h3 : (alW22 w).heap[w.heap.size + 1 + 1]? = some (.cells #[.slice (some ⟨w.heap.size, 0, none⟩) 1 1, .slice (some ⟨w.heap.size + 1, 0, none⟩) 1 1, .slice none 0 0] 30) := by
    unfold alW22
    rw [Below.heap_alloc _ _ _ (by simp)]
    have := heapNew ((w.alloc (.cells #[.string ⟨#[97]⟩] 9)).alloc (.cells #[.string ⟨#[98]⟩] 9)) (.cells #[.slice (some ⟨w.heap.size, 0, none⟩) 1 1, .slice (some ⟨w.heap.size + 1, 0, none⟩) 1 1, .slice none 0 0] 30)
    simpa using this
  have h4 : (alW22 w).heap[w.heap.size + 1 + 1 + 1]? = some (.cells #[.slice none 0 0, .slice (some ⟨w.heap.size + 1 + 1, 0, none⟩) 1 1] 26) := by
    have := heapNew (((w.alloc (.cells #[.string ⟨#[97]⟩] 9)).alloc (.cells #[.string ⟨#[98]⟩] 9)).alloc (.cells #[.slice (some ⟨w.heap.size, 0, none⟩) 1 1, .slice (some ⟨w.heap.size + 1, 0, none⟩) 1 1, .slice none 0 0] 30)) (.cells #[.slice none 0 0, .slice (some ⟨w.heap.size + 1 + 1, 0, none⟩) 1 1] 26)
    unfold alW22
    simpa using this
  refine ⟨((((Below.refl _ _).alloc (Nat.le_refl _) _).alloc (by simp) _).alloc (by simp <;> omega) _).alloc (by simp <;> omega) _, h4, rg_rule (r := ⟨(some ⟨w.heap.size, 0, none⟩, 1, [⟨#[97]⟩]), (some ⟨w.heap.size + 1, 0, none⟩, 1, [⟨#[98]⟩]), (none, 0, [])⟩) h3, ?_⟩
  intro r hr
  unfold alM22 at hr
  obtain rfl := List.mem_singleton.1 hr
  exact ⟨sr_one h0, sr_one h1, SR.nil _ _, by simp, by simp, by simp⟩
def alS22 : St := (writeS (newS 3 10) [47, 98] [] false).1
theorem al22_e : (writeS (newS 3 10) [47, 98] [] false).2 = 0 := by kernel_rfl
theorem al22_a (w : World) : planF alS22 [47] (alM22 w) [97] = ⟨[⟨#[98]⟩], [], [], true⟩ := by kernel_rfl
theorem al22_b (w : World) : planF alS22 [47] (alM22 w) [98] = ⟨[], [], [], false⟩ := by kernel_rfl
theorem al22_go (w : World) : goF (fun x => planF alS22 [47] (alM22 w) x.data.toList) (fun x => decide (kindT alS22 [47] x.data.toList ≠ 0)) 3 ⟨#[97]⟩ se0 = some (⟨[], [⟨#[97]⟩, ⟨#[98]⟩], [⟨#[98]⟩, ⟨#[97]⟩]⟩, 0) := by kernel_rfl
theorem al22_sz (w : World) : (∀ r ∈ alM22 w, ∀ x ∈ r.tg.2.2, x.size ≤ 10000) ∧ (∀ r ∈ alM22 w, ∀ x ∈ r.nd.2.2, x.size ≤ 10000) ∧ (knownsF (alM22 w)).length ≤ 100000 ∧ (∀ x, (specialR (alM22 w) x).length ≤ 100000) ∧ ∀ s ∈ specialR (alM22 w) suffixes, s.size ≤ 10000 := by
  refine ⟨fun r hr => ?_, fun r hr => ?_, of_decide_eq_true (by kernel_rfl), fun x => ?_, fun s hs => ?_⟩
  · unfold alM22 at hr
    obtain rfl := List.mem_singleton.1 hr
    exact fun x hx => by simp at hx; subst hx; decide
  · unfold alM22 at hr
    obtain rfl := List.mem_singleton.1 hr
    exact fun x hx => by simp at hx; subst hx; decide
  · unfold specialR alM22
    rw [List.flatMap_cons, List.flatMap_nil]
    split <;> simp
  · have : specialR (alM22 w) suffixes = [] := by kernel_rfl
    rw [this] at hs
    cases hs
set_option linter.unusedSimpArgs false in
set_option maxRecDepth 100000 in
set_option maxHeartbeats 4000000 in
theorem alive22_any (w : World) (hm : MX w) : Calls Tryz.prog 10 #[] w fun e w' => e = .returned (.bool true) ∧ Below w.heap.size w w' := by
  have HM := hide hm
  clear hm
  obtain ⟨hb, hmk, hrl⟩ := alW22_ok w
  have HB := hide hb
  have HMK := hide hmk
  have HRL := hide hrl
  have hb0 : w.heap.size ≤ (alW22 w).heap.size := hb.size
  have HNW := hide (vnew_any 3 10 (alW22 w) (by omega) (by omega) (by omega) (by omega))
  have hml : w.heap.size + 1 + 1 + 1 < (alW22 w).heap.size := (Array.getElem?_eq_some_iff.1 hmk).1
  clear hb hmk hrl
  go_enter Tryz.func10, Tryz.ntmps10
  go_wp2_with fail
  refine HNW.out.mono ?_
  rintro e w2 ⟨rfl, hb2, hv2, hs2⟩
  have HTA := hide (TA.new HB.out 3 10 hb2 hv2 hs2)
  have hmk2 := (hb2.block _ hml).trans HMK.out
  have HB2 := hide hb2
  clear hb2 hv2 hs2
  obtain ⟨b, hbb⟩ : ∃ b, (alW22 w).heap.size = b := ⟨_, rfl⟩
  rw [hbb] at HTA hb0 hml ⊢
  go_wp2_with fail
  refine (TA.write HTA.out hb0 HM.out (newS_wf 3 10) (by decide) (by decide) [47, 98] (by decide) [] (by decide) false none 0 (RG.nil _ _)).mono ?_
  rintro e w3 ⟨rfl, ht3, hk3⟩
  have HT3 := hide (show TA b w alS22 w3 from ht3)
  have hbz := HTA.out.below.size
  have hmk3 := (hk3.block (w.heap.size + 1 + 1 + 1) (Array.getElem?_eq_some_iff.1 hmk2).1 (fun h => by unfold T0 at h; omega)).trans hmk2
  have hx0 : w3.cell? ⟨w.heap.size + 1 + 1 + 1, 0, none⟩ = some (.slice none 0 0) := cellOf hmk3 (j := 0) rfl
  have hx1 : w3.cell? ⟨w.heap.size + 1 + 1 + 1, 1, none⟩ = some (.slice (some ⟨w.heap.size + 1 + 1, 0, none⟩) 1 1) := cellOf hmk3 (j := 1) rfl
  have hrl3 : RLS w3 (some ⟨w.heap.size + 1 + 1, 0, none⟩) (alM22 w) := HRL.out.below (show Below (alW22 w).heap.size (alW22 w) w3 from hk3.below HB2.out (Nat.le_refl _) (fun k h => by unfold T0 at h; omega))
  have HRL3 := hide hrl3
  clear ht3 hk3 hmk2 hmk3 hrl3 HRL HNW
  have hba := (Below.refl w3.heap.size w3).alloc (Nat.le_refl _) (.cells #[.string ⟨#[97]⟩] 9)
  have hsz := al22_sz w
  have hgh := gh_of (w3.alloc (.cells #[.string ⟨#[97]⟩] 9)) (.slice none 0 0) (some ⟨w.heap.size + 1 + 1, 0, none⟩) 1 (alM22 w) (b + 1) alS22 [47] (fun x => x = ⟨#[97]⟩ ∨ x = ⟨#[98]⟩) (HRL3.out.below hba) (HT3.out.hs.below (VS.fr _ _) hba) ((HM.out.below HT3.out.below).below hba) (by simp) (by simp [alM22]) hsz.1 (fun r hr _ => hsz.2.1 r hr) hsz.2.2.2.2 hsz.2.2.1 hsz.2.2.2.1
    (fun x hx => by rcases hx with rfl | rfl <;> decide) (fun x hx y hy => by
      rcases hx with rfl | rfl
      · rw [show (⟨#[97]⟩ : ByteArray).data.toList = [97] from rfl, al22_a] at hy
        exact .inr (List.mem_singleton.1 hy)
      · rw [show (⟨#[98]⟩ : ByteArray).data.toList = [98] from rfl, al22_b] at hy
        cases hy) (fun x hx => by
      rcases hx with rfl | rfl
      · rw [show (⟨#[97]⟩ : ByteArray).data.toList = [97] from rfl, al22_a]; simp
      · rw [show (⟨#[98]⟩ : ByteArray).data.toList = [98] from rfl, al22_b]; simp)
  have HOR := hide (order_any _ _ _ _ _ _ _ (some ⟨w3.heap.size, 0, none⟩) 1 [⟨#[97]⟩] _ hgh (sr_new w3 ⟨#[97]⟩) (by simp) (fun x hx => .inl (List.mem_singleton.1 hx)))
  have HBA := hide (below_up HT3.out.below hba HT3.out.below.size)
  have HGO := hide (al22_go w)
  clear hba hsz hgh
  go_wp2_with fail
  refine HOR.out.mono ?_
  rintro e w4 ⟨r, c, hor, hb4, A5, k5, rfl, hs5⟩
  have hq := goF_eq (orR_one hor) _ _ HGO.out
  simp only [Prod.mk.injEq] at hq
  obtain ⟨hr, hc⟩ := hq
  subst hr
  subst hc
  have HS5 := hide (hs5 rfl)
  have HB4 := hide (below_up HBA.out hb4 HBA.out.size)
  clear hor hb4 hs5
  simp only [List.length_cons, List.length_nil, Nat.zero_add, if_true]
  have hbq := (Below.refl w4.heap.size w4).alloc (Nat.le_refl _) (.cells #[.string ⟨#[98]⟩, .string ⟨#[97]⟩] 9)
  have hsm := same_any A5 (some ⟨w4.heap.size, 0, none⟩) k5 2 [⟨#[98]⟩, ⟨#[97]⟩] [⟨#[98]⟩, ⟨#[97]⟩] _ (HS5.out.below hbq) (sr_two w4 _ _) (by simp)
  rw [decide_eq_true rfl] at hsm
  have HSM := hide hsm
  have HBQ := hide (below_up HB4.out hbq HB4.out.size)
  clear hbq hsm
  go_wp2_with fail
  refine (num22_any _ _).mono ?_
  rintro e w' ⟨rfl, rfl⟩
  go_wp2_with fail
  refine HSM.out.mono ?_
  rintro e w5 ⟨rfl, hdr⟩
  have HBZ := hide (show Below w.heap.size w w5 by
    obtain ⟨nd, rfl⟩ := hdr
    exact below_drewN HBQ.out nd)
  clear hdr
  go_wp2
  go_ret
  exact ⟨rfl, HBZ.out⟩
end Go.Proofs.YtmblmenafplccaaGreatDoor
namespace Go.Proofs.YtmblmenafplccaaGreatDoor
open Go.RowKit Go.Deep Go.Maps Ln Pth Vf
set_option linter.unusedSimpArgs false
set_option linter.unusedVariables false

theorem InvN.after {A' : AsnN} {B : Nat} {w0 w w' : World} {T N T' N' : Nat → Prop} (ht : ∀ k, T k → B ≤ k) (hb : Below B w0 w) (hB : B ≤ w0.heap.size) (a : A' T' N' w') (hg : GrowN w w' T N T' N') (hk : Kp w w' T) : InvN A' B w0 w' :=
  ⟨T', N', a, hg.2.2.2, fun k h => (hg.1 k h).elim (ht k) (fun h => by have := hb.size; omega), hk.below hb hB ht⟩
section
variable {n back : Nat} {L : List Rl}
def rP (L : List Rl) (x : ByteArray) : Pn := planF (newS 1 1) [47] L x.data.toList
def rI (x : ByteArray) : Bool := decide (kindT (newS 1 1) [47] x.data.toList ≠ 0)
theorem rP_t (h : RgL n back n L) {i : Nat} (hi : i < n) : rP L (tN i) = ⟨ndN n back i, [], [], true⟩ := by
  unfold rP tN
  rw [bs_list]
  exact rg_plan h _ hi
theorem rP_u (h : RgL n back n L) : rP L ⟨#[117]⟩ = noPn := rg_none h _
theorem rI_u : rI ⟨#[117]⟩ = false := by kernel_rfl
def rG (n : Nat) (x : ByteArray) : Prop := (∃ j, j < n ∧ x = tN j) ∨ x = ⟨#[117]⟩
theorem ring_gh (h : RgL n back n L) (hn : n ≤ 60) (Am : Option Addr) (cm gf : Nat) (W : World) (hM : RLS W Am L) (hv : Hs (VS gf (newS 1 1)) W) (hm : MX W) : GH W ⟨.slice none 0 0, .slice Am n cm, gf, bs [47]⟩ (rP L) rI (rG n) := by
  obtain ⟨h1, h2, h3, h4, h5, h6⟩ := rg_sizes h hn
  have := gh_of W (.slice none 0 0) Am cm L gf (newS 1 1) [47] (rG n) hM hv hm (by simp) (by omega) h1 (fun r hr _ => h2 r hr) (h3 _) h4 h5
    (fun x hx => by
      rcases hx with ⟨j, hj, rfl⟩ | rfl
      · have := tN_size (i := j) (by omega); omega
      · decide) (fun x hx y hy => by
      rcases hx with ⟨j, hj, rfl⟩ | rfl
      · rw [show planF (newS 1 1) [47] L (tN j).data.toList = _ from rP_t h hj] at hy
        exact .inl (ndN_mem hy)
      · rw [show planF (newS 1 1) [47] L (⟨#[117]⟩ : ByteArray).data.toList = _ from rP_u h] at hy
        cases hy) (fun x hx => by
      rcases hx with ⟨j, hj, rfl⟩ | rfl
      · rw [show planF (newS 1 1) [47] L (tN j).data.toList = _ from rP_t h hj]
        have := nd_len (n := n) (back := back) j
        show (ndN n back j).length ≤ _
        omega
      · rw [show planF (newS 1 1) [47] L (⟨#[117]⟩ : ByteArray).data.toList = _ from rP_u h]
        simp [noPn])
  rw [rg_len h] at this
  exact this
theorem ring_order (h : RgL n back n L) (h1 : 1 ≤ n) (hn : n ≤ 60) (Am : Option Addr) (cm gf : Nat) (A' : Option Addr) (c' : Nat) (W : World) (hM : RLS W Am L) (hv : Hs (VS gf (newS 1 1)) W) (hm : MX W) (hs : SR W A' [⟨#[116, 48]⟩]) :
    Calls Tryz.prog 12 #[.agg #[.slice none 0 0, .slice Am n cm], .pointer (some ⟨gf, 0, none⟩), .string ⟨#[47]⟩, .slice A' 1 c'] W fun e w' => Below W.heap.size W w' ∧
      ∃ A k, e = .returned (.tuple #[.slice A (if back < n then 0 else n) k, .int .i64 ((if back < n then 18 else 0 : Nat) : Int)]) ∧ (¬ back < n → SR w' A (doneN n)) := by
  have e0 : (⟨#[116, 48]⟩ : ByteArray) = tN 0 := by
    unfold tN tT
    rw [Qm.Base.dgL_small (by omega)]
    rfl
  rw [e0] at hs
  refine (order_any _ _ _ _ (rP L) rI (rG n) A' c' [tN 0] W (ring_gh h hn Am cm gf W hM hv hm) hs (by simp) (fun x hx => .inl ⟨0, by omega, List.mem_singleton.1 hx⟩)).mono ?_
  rintro e w' ⟨r, c, hor, hb, A, k, rfl, hsr⟩
  have hg := ring_go (P := rP L) (is := rI) (n := n) (back := back) (fun i hi => by rw [rP_t h hi]; exact ⟨rfl, rfl⟩) hn (orR_one hor) 0 (by omega) rfl rfl
  by_cases hc : back < n
  · have := hg.1 hc
    subst this
    exact ⟨hb, A, k, by rw [if_pos hc, if_pos hc]; rfl, fun h => absurd hc h⟩
  · obtain ⟨e1, e2⟩ := hg.2 hc
    subst e1 e2
    refine ⟨hb, A, k, ?_, fun _ => hsr rfl⟩
    rw [if_neg hc, if_neg hc, if_pos rfl]
    show Ending.returned (.tuple #[.slice A (doneN n).length k, _]) = _
    rw [doneN_len]
theorem ring_none (h : RgL n back n L) (hn : n ≤ 60) (Am : Option Addr) (cm gf : Nat) (A' : Option Addr) (c' : Nat) (W : World) (hM : RLS W Am L) (hv : Hs (VS gf (newS 1 1)) W) (hm : MX W) (hs : SR W A' [⟨#[117]⟩]) :
    Calls Tryz.prog 12 #[.agg #[.slice none 0 0, .slice Am n cm], .pointer (some ⟨gf, 0, none⟩), .string ⟨#[47]⟩, .slice A' 1 c'] W fun e w' => Below W.heap.size W w' ∧ ∃ A k, e = .returned (.tuple #[.slice A 0 k, .int .i64 19]) := by
  refine (order_any _ _ _ _ (rP L) rI (rG n) A' c' [⟨#[117]⟩] W (ring_gh h hn Am cm gf W hM hv hm) hs (by simp) (fun x hx => .inr (List.mem_singleton.1 hx))).mono ?_
  rintro e w' ⟨r, c, hor, hb, A, k, rfl, hsr⟩
  have hent : entF (rP L) rI ⟨#[117]⟩ se0 = (19, se0) := by
    unfold entF
    rw [if_neg (by rw [Lib.containsS_iff]; simp [se0]), if_neg (by simp [se0]), if_pos ⟨by rw [rP_u h]; rfl, rI_u⟩]
  have := goF_eq (orR_one hor) 1 (se0, 19) (by rw [goF, hent]; rfl)
  simp only [Prod.mk.injEq] at this
  obtain ⟨rfl, rfl⟩ := this
  exact ⟨hb, A, k, rfl⟩
end
end Go.Proofs.YtmblmenafplccaaGreatDoor
