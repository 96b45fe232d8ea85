/- Walks of the file system's room and put. -/
import Derived.Test.YtmblmenafplccaaDoorVfsWalkB
import Derived.BigQuiet
import Derived.Deep.QuietTactic
import Derived.StillTailTactics
namespace Go.Proofs.YtmblmenafplccaaDoor
open Go.RowKit Go.Deep Go.Maps Ln Pth Vf
attribute [local go_sem] bt_eq fld0 fld1 fld2 mkMap

set_option maxRecDepth 100000 in
set_option maxHeartbeats 1000000 in
theorem room_any (g : Nat) (S : St) (hS : WfS S) (nodes : Nat) (grows : Int) (w : World) (h : Hs (VS g S) w) (hn : nodes ≤ 10) (h1 : -4000000 ≤ grows) (h2 : grows ≤ 4000000) :
    Calls Tryd.prog 26 #[.pointer (some ⟨g, 0, none⟩), .int .i64 nodes, .int .i64 grows] w fun e w' => e = .returned (.bool (decide ((S.m.length + nodes : Nat) ≤ S.nodes ∧ (S.used : Int) + grows ≤ (S.bytes : Int)))) ∧ Drew w w' := by
  obtain ⟨b, P, hgb, hg, hm, hsm, _⟩ := VS.opn h
  have hlen := nlen (hm.of (w' := w.drew) rfl) 3
  have hc0 := cellOf hg (j := 0) rfl
  have hc1 := cellOf hg (j := 1) rfl
  have hc2 := cellOf hg (j := 2) rfl
  have hc3 := cellOf hg (j := 3) rfl
  have b1 := hS.nodes
  have b2 := hS.bytes
  have b3 := hS.n10
  have b4 := hS.b20
  have hpl : S.m.length = P.length := by rw [hsm, strip_len]
  rw [hpl] at b1 ⊢
  obtain ⟨m, hm'⟩ : ∃ m, P.length = m := ⟨_, rfl⟩
  obtain ⟨sn, hsn⟩ : ∃ m, S.nodes = m := ⟨_, rfl⟩
  obtain ⟨sb, hsb⟩ : ∃ m, S.bytes = m := ⟨_, rfl⟩
  obtain ⟨su, hsu⟩ : ∃ m, S.used = m := ⟨_, rfl⟩
  rw [hm'] at hlen b1 ⊢
  rw [hsn] at hc1 b1 b3 ⊢
  rw [hsb] at hc2 b2 b4 ⊢
  rw [hsu] at hc3 b2 ⊢
  clear h hS hg hm hsm hpl hm' hsn hsb hsu
  have hn1 : (nodes : Int) ≤ 10 := by omega
  have hm1 : (m : Int) ≤ 10000 := by omega
  have hu1 : (su : Int) ≤ 1048576 := by omega
  have k1 : (m : Int) + (nodes : Int) = ((m + nodes : Nat) : Int) := by omega
  have w1 : IntKind.i64.wrap ((m : Int) + (nodes : Int)) = (m : Int) + (nodes : Int) := IntWalk.i64_in _ (by omega)
  have w2 : IntKind.i64.wrap ((su : Int) + grows) = (su : Int) + grows := IntWalk.i64_in _ (by omega)
  by_cases c1 : m + nodes ≤ sn
  · have d1 : (m : Int) + (nodes : Int) ≤ (sn : Int) := by omega
    by_cases c2 : (su : Int) + grows ≤ (sb : Int)
    · have HE := hide (show decide (m + nodes ≤ sn ∧ (su : Int) + grows ≤ (sb : Int)) = true from decide_eq_true ⟨c1, c2⟩)
      clear c1 k1
      go_enter Tryd.func26, Tryd.ntmps26
      go_wp2
      go_region
      go_wp2
      go_ret
      rw [HE.out]
      exact ⟨rfl, ⟨_, rfl⟩⟩
    · have HE := hide (show decide (m + nodes ≤ sn ∧ (su : Int) + grows ≤ (sb : Int)) = false from decide_eq_false (fun h => c2 h.2))
      have d2 : decide ((su : Int) + grows ≤ (sb : Int)) = false := by simp; omega
      clear c1 k1 c2
      go_enter Tryd.func26, Tryd.ntmps26
      go_wp2
      go_region
      go_wp2
      go_ret
      rw [HE.out]
      exact ⟨rfl, ⟨_, rfl⟩⟩
  · have d1 : decide ((m : Int) + (nodes : Int) ≤ (sn : Int)) = false := by simp; omega
    have HE := hide (show decide (m + nodes ≤ sn ∧ (su : Int) + grows ≤ (sb : Int)) = false from decide_eq_false (fun h => c1 h.1))
    clear c1 k1
    go_enter Tryd.func26, Tryd.ntmps26
    go_wp2
    go_region
    go_wp2
    go_ret
    rw [HE.out]
    exact ⟨rfl, ⟨_, rfl⟩⟩
theorem heapSet {w : World} {g j : Nat} {cs : Array Value} {t : TypeId} (h : w.heap[g]? = some (.cells cs t)) (v : Value) : (w.setCell ⟨g, j, none⟩ v).heap[g]? = some (.cells (cs.setIfInBounds j v) t) := by
  unfold World.setCell
  simp [Array.getElem?_modify, h]
set_option maxRecDepth 100000 in
set_option maxHeartbeats 1000000 in
theorem put_any (g : Nat) (S : St) (q : T) (e : En) (T N : Nat → Prop) (w : World) (h : VS g S T N w) (ok : OkTN T N w) (hr : RiseG S.m) (hl : S.m.length ≤ 100000) (hq : q.length ≤ 100000) (hc : S.clock ≤ 1000000000) (hd : RG encB 1 w e.A e.nd.data) (hN : ∀ a, e.A = some a → N a.block) :
    Calls Tryd.prog 27 #[.pointer (some ⟨g, 0, none⟩), .string (bs q), encN e] w fun e' w' => e' = .returned (.tuple #[]) ∧ VS g (putS S q e.nd.dir e.nd.data) T N w' ∧ Kp w w' T := by
  obtain ⟨b, P, h1, h2, hgb, hg, hm, hsm, hx⟩ := h
  have hc0 := cellOf hg (j := 0) rfl
  have hc4 := cellOf hg (j := 4) rfl
  have hf4 := freeOf hg 4
  have hgl := (ok.1 g h1).1
  have hbl := (ok.1 b h2).1
  have hck : (S.clock : Int) ≤ 1000000000 := by omega
  unfold encN
  go_enter Tryd.func27, Tryd.ntmps27
  go_wp2
  obtain ⟨W3, hW3⟩ : ∃ W, (w.setCell ⟨g, 4, none⟩ (.int .i64 ((S.clock : Int) + 1))).alloc (.cells #[.bool e.nd.dir, .slice e.A e.nd.data.length e.c, .int .i64 ((S.clock : Int) + 1)] 64) = W := ⟨_, rfl⟩
  have hsz3 : W3.heap.size = w.heap.size + 1 := by rw [← hW3]; simp
  have hk3 : Kp w W3 (fun k => k = g) := by
    rw [← hW3]
    refine ⟨rfl, rfl, rfl, by simp, fun k hk hne => ?_⟩
    rw [Below.heap_alloc _ _ _ (by simpa using hk)]
    exact Below.heap_setCell _ _ _ _ (by simpa using hne)
  have hg3 : W3.heap[g]? = some (.cells #[.map (some b), .int .i64 S.nodes, .int .i64 S.bytes, .int .i64 S.used, .int .i64 ((S.clock : Int) + 1)] 59) := by
    rw [← hW3, Below.heap_alloc _ _ _ (by simpa using hgl)]
    exact heapSet hg _
  have hb3 : W3.heap[b]? = w.heap[b]? := hk3.block b hbl (fun e => hgb e.symm)
  have hn3 := heapNew (w.setCell ⟨g, 4, none⟩ (.int .i64 ((S.clock : Int) + 1))) (.cells #[.bool e.nd.dir, .slice e.A e.nd.data.length e.c, .int .i64 ((S.clock : Int) + 1)] 64)
  rw [hW3, World.size_setCell] at hn3
  rw [hW3]
  have hc30 := cellOf hg3 (j := 0) rfl
  have hx0 := cellOf hn3 (j := 0) rfl
  have hx1 := cellOf hn3 (j := 1) rfl
  have hx2 := cellOf hn3 (j := 2) rfl
  have hrP : RiseG P := strip_rise.1 (hsm ▸ hr)
  have hlP : P.length ≤ 100000 := by rw [← strip_len, ← hsm]; exact hl
  obtain ⟨w4, hrun, hm4, hk4, hsz4⟩ := nstore (w := W3.drew) (hm.of (hb3.trans rfl)) hrP (by omega) (s := bs q) (by rw [bs_size]; omega) ⟨e.A, e.c, ⟨e.nd.dir, e.nd.data, S.clock + 1⟩⟩
  unfold encN at hrun
  simp only at hrun
  rw [show ((S.clock + 1 : Nat) : Int) = (S.clock : Int) + 1 by omega] at hrun
  have HM4 := hide hm4
  have HK4 := hide hk4
  have HG3 := hide hg3
  have HK3 := hide hk3
  have HSM := hide hsm
  have HX := hide hx
  clear hm4 hk4 hg3 hk3 hsm hx hm hg hb3 hn3 hW3 hc0 hc4
  go_region
  go_end0
  have hkT : Kp w w4 T := by
    have h3 : Kp w W3.drew (fun k => k = g) := ⟨HK3.out.os, HK3.out.tape, HK3.out.output, HK3.out.size, HK3.out.block⟩
    have h4 := (h3.mono (S' := T) (fun k e => by subst e; exact h1)).trans (HK4.out.mono (fun k e => by subst e; exact .inl h2))
    exact h4
  refine ⟨rfl, ⟨b, putG (bs q, ⟨e.A, e.c, ⟨e.nd.dir, e.nd.data, S.clock + 1⟩⟩) P, h1, h2, hgb, ?_, HM4.out, ?_, ?_⟩, hkT⟩
  · have := (HK4.out.block g (show g < W3.heap.size by omega) (fun e => hgb e)).trans HG3.out
    rw [this]
    rfl
  · show putG (bs q, _) S.m = _
    rw [strip_put, HSM.out]
  · intro x hx
    have hdk : ∀ (A : Option Addr) (D : List UInt8), RG encB 1 w A D → (∀ a, A = some a → N a.block) → RG encB 1 w4 A D := fun A D h hn => h.of hkT.size (fun a ea hlt => hkT.block a.block hlt (fun ht => (ok.1 _ ht).2 (hn a ea)))
    rcases mem_putG hx with rfl | hx
    · exact ⟨hdk _ _ hd hN, hN⟩
    · exact ⟨hdk _ _ (HX.out x hx).1 (HX.out x hx).2, (HX.out x hx).2⟩
end Go.Proofs.YtmblmenafplccaaDoor
