/- Walks of find.Known and find.Has. -/
import Derived.Test.YtdilfbimkepllaaDoorContRule
namespace Go.Proofs.YtdilfbimkepllaaDoor
open Go.RowKit Go.Deep
attribute [local go_sem] bt_eq

set_option maxRecDepth 100000 in
set_option maxHeartbeats 1000000 in
theorem known1_any (g : Nat) (name : ByteArray) (r : Rl) (w : World) (hc : w.cell? ⟨g, 0, none⟩ = some (.string name)) (hr : RlOk w r) :
    Calls Tryd.prog 73 #[.agg #[sv r.tg, sv r.nd, sv r.rc], .pointer (some ⟨g, 0, none⟩)] w fun e w' => e = .returned (.bool (ofR name r)) ∧ Below w.heap.size w w' := by
  have HRK := hide hr
  have hgl := World.block_lt_of_cell? _ _ hc
  have HPL := hide (fun W (hb : Below w.heap.size w W) => plain_any r W (HRK.out.below hb))
  have HCT := hide (fun W (hb : Below w.heap.size w W) => cont_any r.tg.1 r.tg.2.1 r.tg.2.2 name W (HRK.out.tg.below hb) (by have := HRK.out.t1; omega))
  have hof : ofR name r = (plainR r.tg.2.2 && Lib.containsS r.tg.2.2 name) := rfl
  obtain ⟨p1, hp1⟩ : ∃ b, plainR r.tg.2.2 = b := ⟨_, rfl⟩
  obtain ⟨p2, hp2⟩ : ∃ b, Lib.containsS r.tg.2.2 name = b := ⟨_, rfl⟩
  rw [hp1] at HPL hof
  rw [hp2] at HCT hof
  rw [hof]
  clear hof hp1 hp2 hr
  have HC := hide hc
  unfold sv at HPL ⊢
  have HNB := hide (heapNew w (.cells #[.slice r.tg.1 r.tg.2.2.length r.tg.2.1, .slice r.nd.1 r.nd.2.2.length r.nd.2.1, .slice r.rc.1 r.rc.2.2.length r.rc.2.1] 33))
  have HBA := hide ((Below.refl w.heap.size w).alloc (Nat.le_refl _) (.cells #[.slice r.tg.1 r.tg.2.2.length r.tg.2.1, .slice r.nd.1 r.nd.2.2.length r.nd.2.1, .slice r.rc.1 r.rc.2.2.length r.rc.2.1] 33))
  go_enter Tryd.func73, Tryd.ntmps73
  go_wp2_with fail
  refine (HPL.out _ HBA.out).mono ?_
  rintro e w1 ⟨rfl, hb1⟩
  have hk1 := hb1.block w.heap.size (Array.getElem?_eq_some_iff.1 HNB.out).1
  have hd0 := cellOf' (hk1.trans HNB.out) (j := 0) rfl
  have HB1 := hide (below_up HBA.out hb1 HBA.out.size)
  clear hb1 hk1 hc
  have hc := (HB1.out.cell (p := ⟨g, 0, none⟩) hgl).trans HC.out
  cases p1 with
  | false =>
    go_wp2
    go_ret
    exact ⟨rfl, HB1.out⟩
  | true =>
    go_wp2_with fail
    refine (HCT.out _ HB1.out).mono ?_
    rintro e w' ⟨rfl, rfl⟩
    go_wp2
    go_ret
    exact ⟨rfl, HB1.out⟩
set_option maxRecDepth 100000 in
set_option maxHeartbeats 1000000 in
theorem known_any (mac : Value) (A : Option Addr) (c : Nat) (L : List Rl) (name : ByteArray) (w : World) (hA : RLS w A L) (hl : L.length ≤ 1000) :
    Calls Tryd.prog 56 #[.agg #[mac, .slice A L.length c], .string name] w fun e w' => e = .returned (.bool (knownR L name)) ∧ Below w.heap.size w w' := by
  have HA := hide hA
  have h1 := (Below.refl w.heap.size w).alloc (Nat.le_refl _) (.cells #[mac, .slice A L.length c] 30)
  have h2 := h1.alloc (by simp) (.cells #[.string name] 9)
  have hnb := heapNew (w.alloc (.cells #[mac, .slice A L.length c] 30)) (.cells #[.string name] 9)
  have HB2 := hide h2
  have HCR := hide (contr_any (ofR name) 73 #[.pointer (some ⟨w.heap.size + 1, 0, none⟩)] (fun _ _ => by kernel_rfl) A c L ((w.alloc (.cells #[mac, .slice A L.length c] 30)).alloc (.cells #[.string name] 9)) (by omega) (HA.out.below h2) (fun W x hx hb => by
    have hnb' : ((w.alloc (.cells #[mac, .slice A L.length c] 30)).alloc (.cells #[.string name] 9)).heap[w.heap.size + 1]? = some (.cells #[.string name] 9) := by simpa using hnb
    have hcw := cellOf' ((hb.block (w.heap.size + 1) (by simp)).trans hnb') (j := 0) rfl
    exact (known1_any (w.heap.size + 1) name x W hcw ((HA.out.2 x hx).below (h2.trans (hb.mono (by simp; omega))))).mono (fun e w' ⟨h3, h4⟩ => ⟨h3, hb.trans (h4.mono hb.size)⟩)))
  have hkn : L.any (ofR name) = knownR L name := rfl
  rw [hkn] at HCR
  generalize knownR L name = b at *
  obtain ⟨n, hn⟩ : ∃ n, L.length = n := ⟨_, rfl⟩
  rw [hn] at HCR HB2 hl ⊢
  clear hA h1 h2 hnb hkn hn HA
  go_enter Tryd.func56, Tryd.ntmps56
  go_wp2_with fail
  refine HCR.out.mono ?_
  rintro e w' ⟨rfl, hb⟩
  have HB := hide (below_up HB2.out hb HB2.out.size)
  clear hb
  go_wp2
  go_ret
  exact ⟨rfl, HB.out⟩
theorem special_len_take (L : List Rl) (name : ByteArray) (k : Nat) : (specialR (L.take k) name).length ≤ (specialR L name).length := by
  unfold specialR
  conv => rhs; rw [← List.take_append_drop k L, List.flatMap_append, List.length_append]
  omega
set_option maxRecDepth 100000 in
set_option maxHeartbeats 1000000 in
theorem has_any (mac : Value) (A : Option Addr) (c : Nat) (L : List Rl) (name target : ByteArray) (w : World) (hA : RLS w A L) (hl : L.length ≤ 1000) (hs : (specialR L name).length ≤ 900000) :
    Calls Tryd.prog 35 #[.agg #[mac, .slice A L.length c], .string name, .string target] w fun e w' => e = .returned (.bool (hasR L name target)) ∧ Below w.heap.size w w' := by
  have HA := hide hA
  have HSP := hide (fun W (hb : Below w.heap.size w W) => special_any mac A c L name W (HA.out.below hb) hl (fun k => by have := special_len_take L name k; omega))
  have HKN := hide (fun W (hb : Below w.heap.size w W) => known_any mac A c L name W (HA.out.below hb) hl)
  have hR : hasR L name target = (Lib.containsS (specialR L name) target || (decide ((specialR L name).length = 0) && knownR L name)) := rfl
  generalize specialR L name = SP at *
  generalize knownR L name = kn at *
  obtain ⟨ct, hct⟩ : ∃ b, Lib.containsS SP target = b := ⟨_, rfl⟩
  obtain ⟨n, hn⟩ : ∃ n, L.length = n := ⟨_, rfl⟩
  rw [hct] at hR
  rw [hn] at HSP HKN ⊢
  have HR := hide hR
  have HCT := hide hct
  have h1 := (Below.refl w.heap.size w).alloc (Nat.le_refl _) (.cells #[mac, .slice A n c] 30)
  have HNB := hide (heapNew w (.cells #[mac, .slice A n c] 30))
  have HB1 := hide h1
  clear hA hR hct hn hl h1
  go_enter Tryd.func35, Tryd.ntmps35
  go_wp2_with fail
  refine (HSP.out _ HB1.out).mono ?_
  rintro e w1 ⟨⟨v, rfl, ho⟩, hb⟩
  obtain ⟨A5, c5, rfl, hc5, hsr, _⟩ := ho.slice
  have hk1 := hb.block w.heap.size (by simp)
  have hd0 := cellOf' (hk1.trans HNB.out) (j := 0) rfl
  have hd1 := cellOf' (hk1.trans HNB.out) (j := 1) rfl
  have HCN := hide (cont_any A5 c5 SP target w1 hsr (by omega))
  rw [HCT.out] at HCN
  have HB2 := hide (below_up HB1.out hb HB1.out.size)
  clear ho hb hsr hk1
  obtain ⟨m, hm⟩ : ∃ m, SP.length = m := ⟨_, rfl⟩
  rw [hm] at HCN hc5 hs ⊢
  have HM := hide hm
  clear hm
  have hm1 : (m : Int) ≤ 900000 := by omega
  go_wp2_with fail
  refine HCN.out.mono ?_
  rintro e w' ⟨rfl, rfl⟩
  cases ct with
  | true =>
    have HE := hide (show hasR L name target = true by rw [HR.out]; rfl)
    go_wp2
    go_ret
    rw [HE.out]
    exact ⟨rfl, HB2.out⟩
  | false =>
    by_cases m0 : m = 0
    · subst m0
      have HE := hide (show hasR L name target = kn by rw [HR.out, HM.out]; simp)
      go_wp2_with fail
      refine (HKN.out _ HB2.out).mono ?_
      rintro e w3 ⟨rfl, hb3⟩
      have HB3 := hide (below_up HB2.out hb3 HB2.out.size)
      clear hb3
      go_wp2
      go_ret
      rw [HE.out]
      exact ⟨rfl, HB3.out⟩
    · have m0' : ((m : Int) == 0) = false := by simpa using m0
      have HE := hide (show hasR L name target = false by rw [HR.out, HM.out, decide_eq_false m0]; rfl)
      clear m0
      go_wp2
      go_ret
      rw [HE.out]
      exact ⟨rfl, HB2.out⟩
end Go.Proofs.YtdilfbimkepllaaDoor
