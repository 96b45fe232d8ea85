/- Walk of age.Old. -/
import Derived.Test.YtdilfbimkepllaaDoorAgeWalkA
namespace Go.Proofs.YtdilfbimkepllaaDoor
open Go.RowKit Go.Deep Go.Maps Ln Pth Vf
attribute [local go_sem] bt_eq

set_option maxRecDepth 100000 in
set_option maxHeartbeats 2000000 in
theorem old1_any (g gf gc gm gk : Nat) (S : St) (cwd : T) (mac : Value) (R : Option Addr) (rc : Nat) (M : List Rl) (B : Option Addr) (bc : Nat) (made : List ByteArray) (s : ByteArray) (w : World) (h : Hs (VS g S) w) (hm : MX w) (h1 : cwd.length ≤ 100000) (h2 : s.size ≤ 100000)
    (hf : w.cell? ⟨gf, 0, none⟩ = some (.pointer (some ⟨g, 0, none⟩))) (hc : w.cell? ⟨gc, 0, none⟩ = some (.string (bs cwd))) (hmd : w.cell? ⟨gm, 0, none⟩ = some (.slice B made.length bc)) (hk0 : w.cell? ⟨gk, 0, none⟩ = some mac) (hk1 : w.cell? ⟨gk, 1, none⟩ = some (.slice R M.length rc))
    (hM : RLS w R M) (hml : M.length ≤ 1000) (hsp : (specialR M phony).length ≤ 900000) (hB : SR w B made) (hbl : made.length ≤ 100000) :
    Calls Tryd.prog 37 #[.string s, .pointer (some ⟨gf, 0, none⟩), .pointer (some ⟨gc, 0, none⟩), .pointer (some ⟨gm, 0, none⟩), .pointer (some ⟨gk, 0, none⟩)] w fun e w' => e = .returned (.bool (madeS S cwd M made s)) ∧ Below w.heap.size w w' := by
  have HN := hide (node_any g S cwd s w h hm h1 h2)
  have HCT := hide (fun W (hb : Below w.heap.size w W) => cont_any B bc made s W (hB.below hb) (by omega))
  have HHS := hide (fun W (hb : Below w.heap.size w W) => has_any mac R rc M phony s W (hM.below hb) hml hsp)
  have hR : madeS S cwd M made s = (Lib.containsS made s && (!(nodeS S cwd s).1 || hasR M phony s)) := rfl
  obtain ⟨ct, hct⟩ : ∃ b, Lib.containsS made s = b := ⟨_, rfl⟩
  obtain ⟨nb, hnb⟩ : ∃ b, (nodeS S cwd s).1 = b := ⟨_, rfl⟩
  obtain ⟨nt, hnt⟩ : ∃ b, (nodeS S cwd s).2 = b := ⟨_, rfl⟩
  obtain ⟨hh, hhh⟩ : ∃ b, hasR M phony s = b := ⟨_, rfl⟩
  rw [hct, hnb, hhh] at hR
  rw [hct] at HCT
  rw [hnb, hnt] at HN
  rw [hhh] at HHS
  have HR := hide hR
  have lf := World.block_lt_of_cell? _ _ hf
  have lc := World.block_lt_of_cell? _ _ hc
  have lm := World.block_lt_of_cell? _ _ hmd
  have lk := World.block_lt_of_cell? _ _ hk0
  have HMD := hide hmd
  have HK0 := hide hk0
  have HK1 := hide hk1
  unfold phony at HHS
  obtain ⟨n, hn⟩ : ∃ n, made.length = n := ⟨_, rfl⟩
  obtain ⟨k, hk⟩ : ∃ n, M.length = n := ⟨_, rfl⟩
  rw [hn] at HCT HMD
  rw [hk] at HHS HK1
  clear hR hct hnb hnt hhh h hm hmd hk0 hk1 hM hml hsp hB hbl hn hk
  go_enter Tryd.func37, Tryd.ntmps37
  go_wp2_with fail
  refine HN.out.mono ?_
  rintro e w1 ⟨rfl, hb⟩
  have hmd := (hb.cell (p := ⟨gm, 0, none⟩) lm).trans HMD.out
  have hk0 := (hb.cell (p := ⟨gk, 0, none⟩) lk).trans HK0.out
  have hk1 := (hb.cell (p := ⟨gk, 1, none⟩) lk).trans HK1.out
  have HB := hide hb
  clear hb hf hc
  go_wp2_with fail
  refine (HCT.out w1 HB.out).mono ?_
  rintro e w' ⟨rfl, rfl⟩
  cases ct with
  | false =>
    have HE := hide (show madeS S cwd M made s = false by rw [HR.out]; rfl)
    go_wp2
    go_ret
    rw [HE.out]
    exact ⟨rfl, HB.out⟩
  | true =>
    cases nb with
    | false =>
      have HE := hide (show madeS S cwd M made s = true by rw [HR.out]; rfl)
      go_wp2
      go_ret
      rw [HE.out]
      exact ⟨rfl, HB.out⟩
    | true =>
      have HE := hide (show madeS S cwd M made s = hh by rw [HR.out]; rfl)
      go_wp2_with fail
      refine (HHS.out w1 HB.out).mono ?_
      rintro e w3 ⟨rfl, hb3⟩
      have HB3 := hide (below_up HB.out hb3 HB.out.size)
      clear hb3
      go_wp2
      go_ret
      rw [HE.out]
      exact ⟨rfl, HB3.out⟩
set_option maxRecDepth 100000 in
set_option maxHeartbeats 4000000 in
theorem old_any (g : Nat) (S : St) (cwd : T) (mac : Value) (R : Option Addr) (rc : Nat) (M : List Rl) (target : ByteArray) (A : Option Addr) (c : Nat) (L : List ByteArray) (B : Option Addr) (bc : Nat) (made : List ByteArray) (w : World) (h : Hs (VS g S) w) (hm : MX w) (h1 : cwd.length ≤ 100000) (h2 : target.size ≤ 100000)
    (hA : SR w A L) (hl : L.length ≤ 100000) (hs : ∀ x ∈ L, x.size ≤ 100000) (hM : RLS w R M) (hml : M.length ≤ 1000) (hsp : (specialR M phony).length ≤ 900000) (hB : SR w B made) (hbl : made.length ≤ 100000) :
    Calls Tryd.prog 13 #[.agg #[mac, .slice R M.length rc], .pointer (some ⟨g, 0, none⟩), .string (bs cwd), .string target, .slice A L.length c, .slice B made.length bc] w fun e w' => e = .returned (.bool (oldS S cwd M target L made)) ∧ Below w.heap.size w w' := by
  have hb4 := ((((Below.refl w.heap.size w).alloc (Nat.le_refl _) (.cells #[mac, .slice R M.length rc] 30)).alloc (by simp) (.cells #[.pointer (some ⟨g, 0, none⟩)] 23)).alloc (by simp; omega) (.cells #[.string (bs cwd)] 9)).alloc (by simp; omega) (.cells #[.slice B made.length bc] 31)
  obtain ⟨W, hW⟩ : ∃ W, (((w.alloc (.cells #[mac, .slice R M.length rc] 30)).alloc (.cells #[.pointer (some ⟨g, 0, none⟩)] 23)).alloc (.cells #[.string (bs cwd)] 9)).alloc (.cells #[.slice B made.length bc] 31) = W := ⟨_, rfl⟩
  have hsz : W.heap.size = w.heap.size + 4 := by rw [← hW]; simp
  have hk : W.heap[w.heap.size]? = some (.cells #[mac, .slice R M.length rc] 30) := by
    rw [← hW, Below.heap_alloc _ _ _ (by simp; omega), Below.heap_alloc _ _ _ (by simp; omega), Below.heap_alloc _ _ _ (by simp)]
    exact heapNew _ _
  have hf : W.heap[w.heap.size + 1]? = some (.cells #[.pointer (some ⟨g, 0, none⟩)] 23) := by
    rw [← hW, Below.heap_alloc _ _ _ (by simp), Below.heap_alloc _ _ _ (by simp)]
    have := heapNew (w.alloc (.cells #[mac, .slice R M.length rc] 30)) (.cells #[.pointer (some ⟨g, 0, none⟩)] 23)
    simpa using this
  have hc : W.heap[w.heap.size + 2]? = some (.cells #[.string (bs cwd)] 9) := by
    rw [← hW, Below.heap_alloc _ _ _ (by simp)]
    have := heapNew ((w.alloc (.cells #[mac, .slice R M.length rc] 30)).alloc (.cells #[.pointer (some ⟨g, 0, none⟩)] 23)) (.cells #[.string (bs cwd)] 9)
    simpa using this
  have hd : W.heap[w.heap.size + 3]? = some (.cells #[.slice B made.length bc] 31) := by
    rw [← hW]
    have := heapNew (((w.alloc (.cells #[mac, .slice R M.length rc] 30)).alloc (.cells #[.pointer (some ⟨g, 0, none⟩)] 23)).alloc (.cells #[.string (bs cwd)] 9)) (.cells #[.slice B made.length bc] 31)
    simpa using this
  rw [hW] at hb4
  have HB4 := hide hb4
  have HNT := hide (node_any g S cwd target W (h.below (VS.fr g S) hb4) (hm.below hb4) h1 h2)
  have HHS := hide (fun X (hb : Below w.heap.size w X) => has_any mac R rc M phony target X (hM.below hb) hml hsp)
  have HNW := hide (fun X (hb : Below w.heap.size w X) => newer_any g S cwd target A c L X (h.below (VS.fr g S) hb) (hm.below hb) h1 h2 (hA.below hb) hl hs)
  have HCF := hide (fun X (hb : Below W.heap.size W X) => contf_any (madeS S cwd M made) 37 #[.pointer (some ⟨w.heap.size + 1, 0, none⟩), .pointer (some ⟨w.heap.size + 2, 0, none⟩), .pointer (some ⟨w.heap.size + 3, 0, none⟩), .pointer (some ⟨w.heap.size, 0, none⟩)] (fun _ _ => by kernel_rfl) A c L X (by omega) (hA.below (below_up hb4 hb hb4.size)) (fun Y x hx hy => by
    have hby := below_up hb4 (below_up hb hy hb.size) hb4.size
    have hyw := below_up hb hy hb.size
    have cf := cellOf ((hyw.block (w.heap.size + 1) (by omega)).trans hf) (j := 0) rfl
    have cc := cellOf ((hyw.block (w.heap.size + 2) (by omega)).trans hc) (j := 0) rfl
    have cd := cellOf ((hyw.block (w.heap.size + 3) (by omega)).trans hd) (j := 0) rfl
    have c0 := cellOf ((hyw.block (w.heap.size) (by omega)).trans hk) (j := 0) rfl
    have c1 := cellOf ((hyw.block (w.heap.size) (by omega)).trans hk) (j := 1) rfl
    exact (old1_any g _ _ _ _ S cwd mac R rc M B bc made x Y (h.below (VS.fr g S) hby) (hm.below hby) h1 (hs x hx) cf cc cd c0 c1 (hM.below hby) hml hsp (hB.below hby) hbl).mono (fun e w' ⟨q1, q2⟩ => ⟨q1, below_up hy q2 hy.size⟩)))
  have hR : oldS S cwd M target L made = (!(nodeS S cwd target).1 || hasR M phony target || decide (0 < (newerS S cwd target L).length) || L.any (madeS S cwd M made)) := rfl
  obtain ⟨nb, hnb⟩ : ∃ b, (nodeS S cwd target).1 = b := ⟨_, rfl⟩
  obtain ⟨nt, hnt⟩ : ∃ b, (nodeS S cwd target).2 = b := ⟨_, rfl⟩
  obtain ⟨hh, hhh⟩ : ∃ b, hasR M phony target = b := ⟨_, rfl⟩
  obtain ⟨NW, hnw⟩ : ∃ b, newerS S cwd target L = b := ⟨_, rfl⟩
  obtain ⟨an, han⟩ : ∃ b, L.any (madeS S cwd M made) = b := ⟨_, rfl⟩
  have hnl : NW.length ≤ 100000 := by rw [← hnw]; unfold newerS; exact Nat.le_trans (List.length_filter_le _ _) hl
  rw [hnb, hhh, hnw, han] at hR
  rw [hnb, hnt] at HNT
  rw [hhh] at HHS
  rw [hnw] at HNW
  rw [han] at HCF
  have HR := hide hR
  have HWW := hide hW
  have hf0 := cellOf hf (j := 0) rfl
  have hc0 := cellOf hc (j := 0) rfl
  have HK := hide hk
  have HF := hide hf
  have HC := hide hc
  unfold phony at HHS
  obtain ⟨n, hn⟩ : ∃ n, L.length = n := ⟨_, rfl⟩
  obtain ⟨k, hk'⟩ : ∃ n, M.length = n := ⟨_, rfl⟩
  obtain ⟨j, hj'⟩ : ∃ n, made.length = n := ⟨_, rfl⟩
  rw [hn] at HNW HCF ⊢
  rw [hk'] at HHS HK HWW ⊢
  rw [hj'] at HWW ⊢
  have HSZ := hide hsz
  clear hR hnb hnt hhh hnw han hk hf hc hd hb4 hW hsz h hm hA hl hs hM hml hsp hB hbl hn hk' hj'
  go_enter Tryd.func13, Tryd.ntmps13
  go_wp2_with fail
  rw [HWW.out]
  refine HNT.out.mono ?_
  rintro e w1 ⟨rfl, hb1⟩
  have hk1 := hb1.block w.heap.size (by have := HSZ.out; omega)
  have hf1 := hb1.block (w.heap.size + 1) (by have := HSZ.out; omega)
  have hc1 := hb1.block (w.heap.size + 2) (by have := HSZ.out; omega)
  clear hf0 hc0
  have hk10 := cellOf (hk1.trans HK.out) (j := 0) rfl
  have hk11 := cellOf (hk1.trans HK.out) (j := 1) rfl
  have HBW1 := hide hb1
  have HB1 := hide (below_up HB4.out hb1 HB4.out.size)
  clear hk1 hf1 hc1 hb1
  cases nb with
  | false =>
    have HE := hide (show oldS S cwd M target L made = true by rw [HR.out]; rfl)
    go_wp2
    go_ret
    rw [HE.out]
    exact ⟨rfl, HB1.out⟩
  | true =>
    go_wp2_with fail
    refine (HHS.out w1 HB1.out).mono ?_
    rintro e w2 ⟨rfl, hb2⟩
    have hbw2 := below_up HBW1.out hb2 HBW1.out.size
    have hf2 := cellOf ((hbw2.block (w.heap.size + 1) (by have := HSZ.out; omega)).trans HF.out) (j := 0) rfl
    have hc2 := cellOf ((hbw2.block (w.heap.size + 2) (by have := HSZ.out; omega)).trans HC.out) (j := 0) rfl
    have HBW2 := hide hbw2
    have HB2 := hide (below_up HB1.out hb2 HB1.out.size)
    clear hb2 hbw2 hk10 hk11
    cases hh with
    | true =>
      have HE := hide (show oldS S cwd M target L made = true by rw [HR.out]; rfl)
      go_wp2
      go_ret
      rw [HE.out]
      exact ⟨rfl, HB2.out⟩
    | false =>
      go_wp2_with fail
      refine (HNW.out w2 HB2.out).mono ?_
      rintro e w3 ⟨⟨v, rfl, ho⟩, hb3⟩
      obtain ⟨A5, c5, rfl, hc5, _, _⟩ := ho.slice
      have HBW3 := hide (below_up HBW2.out hb3 HBW2.out.size)
      have HB3 := hide (below_up HB2.out hb3 HB2.out.size)
      clear hb3 ho hf2 hc2
      obtain ⟨m, hm'⟩ : ∃ m, NW.length = m := ⟨_, rfl⟩
      rw [hm'] at hnl hc5 ⊢
      have HM := hide hm'
      clear hm'
      by_cases m0 : 0 < m
      · have d1 : (0 : Int) < (m : Int) := by omega
        have HE := hide (show oldS S cwd M target L made = true by rw [HR.out, HM.out, decide_eq_true m0]; rfl)
        clear m0
        go_wp2
        go_ret
        rw [HE.out]
        exact ⟨rfl, HB3.out⟩
      · obtain rfl : m = 0 := by omega
        have HE := hide (show oldS S cwd M target L made = an by rw [HR.out, HM.out]; rfl)
        clear m0
        go_wp2_with fail
        refine (HCF.out w3 HBW3.out).mono ?_
        rintro e w4 ⟨rfl, hb4⟩
        have HB5 := hide (below_up HB3.out hb4 HB3.out.size)
        clear hb4
        go_wp2
        go_ret
        rw [HE.out]
        exact ⟨rfl, HB5.out⟩
end Go.Proofs.YtdilfbimkepllaaDoor
