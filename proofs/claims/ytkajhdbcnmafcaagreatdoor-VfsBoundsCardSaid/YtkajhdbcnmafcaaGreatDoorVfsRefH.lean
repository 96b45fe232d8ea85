/- Walks of the reference's cut, New. Walk of the reference's Copy. The reference's file system behind a call that changes it: its own block alone is changed, all else is new. -/
import Derived.Test.YtkajhdbcnmafcaaGreatDoorVfsRefA
import Derived.Test.YtkajhdbcnmafcaaGreatDoorVfsRefE
namespace Go.Proofs.YtkajhdbcnmafcaaGreatDoor
open Go.RowKit Go.Deep Go.Maps Ln Pth Vf
set_option linter.unusedSimpArgs false
set_option linter.unusedVariables false
attribute [local go_sem] bt_eq

set_option maxRecDepth 100000 in
set_option maxHeartbeats 1000000 in
theorem rcut_any (n m : Int) (w : World) (hm : 0 ≤ m) :
    Calls Tryz.prog 51 #[.int .i64 n, .int .i64 m] w fun e w' => e = .returned (.int .i64 (min (max 0 n) m)) ∧ w = w' := by
  by_cases h0 : n < 0
  · have d0 : decide (n < 0) = true := by simpa using h0
    have HE := hide (show min (max 0 n) m = 0 by omega)
    clear h0
    go_enter Tryz.func51, Tryz.ntmps51
    go_wp2
    go_ret
    rw [HE.out]
    exact ⟨rfl, rfl⟩
  · have d0 : decide (n < 0) = false := by simpa using h0
    by_cases h1 : n > m
    · have d1 : decide (m < n) = true := by simpa using h1
      have HE := hide (show min (max 0 n) m = m by omega)
      clear h0 h1
      go_enter Tryz.func51, Tryz.ntmps51
      go_wp2
      go_ret
      rw [HE.out]
      exact ⟨rfl, rfl⟩
    · have d1 : decide (m < n) = false := by simpa using h1
      have HE := hide (show min (max 0 n) m = n by omega)
      clear h0 h1
      go_enter Tryz.func51, Tryz.ntmps51
      go_wp2
      go_ret
      rw [HE.out]
      exact ⟨rfl, rfl⟩
set_option maxRecDepth 100000 in
set_option maxHeartbeats 1000000 in
theorem rnew_any (n b : Int) (w : World) :
    Calls Tryz.prog 14 #[.int .i64 n, .int .i64 b] w fun e w' => e = .returned (.pointer (some ⟨w.heap.size, 0, none⟩)) ∧ Below w.heap.size w w' ∧ RSO w.heap.size (newS n b) none 0 [] w' ∧ w'.heap.size = w.heap.size + 1 := by
  have e1 : min (max (0 : Int) n) 10000 = ((newS n b).nodes : Nat) := by simp only [newS]; omega
  have e2 : min (max (0 : Int) b) 1048576 = ((newS n b).bytes : Nat) := by simp only [newS]; omega
  have HC1 := hide (rcut_any n 10000 w (by omega))
  have HC2 := hide (rcut_any b 1048576 w (by omega))
  rw [e1] at HC1
  rw [e2] at HC2
  obtain ⟨S, hS⟩ : ∃ S, newS n b = S := ⟨_, rfl⟩
  rw [hS] at HC1 HC2 ⊢
  have HM := hide (show S.m = [] ∧ S.clock = 0 by rw [← hS]; exact ⟨rfl, rfl⟩)
  clear e1 e2 hS
  go_enter Tryz.func14, Tryz.ntmps14
  go_wp2_with fail
  refine HC1.out.mono ?_
  rintro e w' ⟨rfl, rfl⟩
  go_wp2_with fail
  refine HC2.out.mono ?_
  rintro e w' ⟨rfl, rfl⟩
  go_wp2
  go_ret
  refine ⟨rfl, (Below.refl _ _).alloc (Nat.le_refl _) _, ⟨?_, by simp, (fun k x hk => by simp at hk), (fun x hx => by cases hx), by rw [HM.out.1]; rfl, (fun a e => by cases e), (fun a e => by cases e), (fun x hx => by cases hx), (fun x hx => by cases hx)⟩, by simp⟩
  have := heapNew w (.cells #[.int .i64 S.nodes, .int .i64 S.bytes, .slice none 0 0, .int .i64 0] 89)
  rw [HM.out.2]
  simpa using this
end Go.Proofs.YtkajhdbcnmafcaaGreatDoor
namespace Go.Proofs.YtkajhdbcnmafcaaGreatDoor
open Go.RowKit Go.Deep Go.Maps Ln Pth Vf
set_option linter.unusedSimpArgs false
set_option linter.unusedVariables false
attribute [local go_sem] bt_eq

set_option maxRecDepth 100000 in
set_option maxHeartbeats 1000000 in
theorem rcopy4_any (g : Nat) (S : St) (A : Option Addr) (c : Nat) (P : List NV) (w : World) (h : RSO g S A c P w) (hl : P.length ≤ 10000) :
    Calls Tryz.prog 39 #[.pointer (some ⟨g, 0, none⟩)] w fun e w' => e = .returned (.pointer (some ⟨w.heap.size, 0, none⟩)) ∧ Below w.heap.size w w' ∧ ∃ A' c', RSO w.heap.size S A' c' P w' ∧ (∀ a, A' = some a → w.heap.size < a.block) := by
  have H := hide h
  have hg := h.heap
  have hgl : g < w.heap.size := (Array.getElem?_eq_some_iff.1 h.heap).1
  obtain ⟨n, hn⟩ : ∃ n, P.length = n := ⟨_, rfl⟩
  have HN := hide hn
  rw [hn] at hg
  have hc0 := cellOf hg (j := 0) (v := .int .i64 S.nodes) rfl
  have hc1 := cellOf hg (j := 1) (v := .int .i64 S.bytes) rfl
  have hc2 := cellOf hg (j := 2) (v := .slice A n c) rfl
  have hc3 := cellOf hg (j := 3) (v := .int .i64 S.clock) rfl
  obtain ⟨O, hO⟩ : ∃ o : Obj, Obj.cells #[.int .i64 S.nodes, .int .i64 S.bytes, .slice A n c, .int .i64 S.clock] 89 = o := ⟨_, rfl⟩
  have hb1 : Below w.heap.size w (w.alloc O) := (Below.refl _ w).alloc (Nat.le_refl _) _
  have hz1 : (w.alloc O).heap.size = w.heap.size + 1 := by simp
  obtain ⟨v2, w2, hrun, o2, g2, _⟩ := run_appG rowN encE_len encE_one (c := c) (OwnG.nil (w.alloc O) (w.alloc O).heap.size) (h.rg.below hb1) (Nat.le_refl _) (by simp; omega)
  simp only [List.nil_append] at o2
  obtain ⟨A', c', rfl, hcp, hrg, hob, htop⟩ := o2.slice encE_len
  have hb12 : Below (w.alloc O).heap.size (w.alloc O) w2 := Below.of_gb g2 (Nat.le_refl _) (fun k hk => by cases hk)
  have hA' : ∀ a, A' = some a → w.heap.size < a.block := fun a e => by have := (o2.lt _ (hob a e)).1; omega
  have h4 := (hb12.block w.heap.size (by omega)).trans (heapNew w O)
  have hdat : ∀ x ∈ P, RG encB 1 w2 x.2.A x.2.nd.data ∧ ∀ v, RG encB 1 (w2.setCell ⟨w.heap.size, 2, none⟩ v) x.2.A x.2.nd.data := fun x hx => by
    have hbb := below_up hb1 hb12 hb1.size
    exact ⟨(h.dat x hx).below hbb, fun v => (h.dat x hx).below (hbb.setCell (p := ⟨w.heap.size, 2, none⟩) (Nat.le_refl _) v)⟩
  rw [← hO] at h4 hrun
  have hf4 := freeOf h4 2
  have hcc4 := cellOf h4 (j := 2) (v := .slice A n c) rfl
  have HG5 := hide (heapSet (j := 2) h4 (.slice A' P.length c'))
  have HA' := hide hA'
  have HTOP := hide (show ∀ a, A' = some a → ∃ g o, a = ⟨g, o, none⟩ from fun a e => by obtain ⟨g2, e2⟩ := htop a e; exact ⟨g2, 0, e2⟩)
  have HND := hide (show ∀ x ∈ P, ∀ a, x.2.A = some a → x.2.nd.data ≠ [] → a.block ≠ w.heap.size from fun x hx a e hn he => by
    obtain ⟨y, hy⟩ : ∃ y, x.2.nd.data[0]? = some y := ⟨x.2.nd.data[0]'(List.length_pos_iff.2 hn), List.getElem?_eq_getElem _⟩
    obtain ⟨g2, o2, e2, hg2, _⟩ := h.dat x hx 0 y hy
    rw [e] at e2
    injection e2 with e2
    rw [e2] at he
    dsimp only at he
    omega)
  have HCP := hide hcp
  have HRG := hide (hrg.gb (gb_setCell (World.grownBy.refl w2 (some w.heap.size)) 2 (.slice A' P.length c')) (fun a e h => by injection h with h; have := hA' a e; omega))
  have HDT := hide hdat
  have HBB := hide (below_up hb1 hb12 hb1.size)
  rw [hn] at hrun HG5 HCP HRG
  clear h hg hn hl hO hb1 hz1 o2 hcp hrg hob g2 hb12 hA' h4 hdat htop
  go_enter Tryz.func39, Tryz.ntmps39
  go_wp2_with (first | (at_builtin; refine wpList_app_run ?_ (.const (.slice none 0 0)) (.tmp 10) ?_ ?_ ?_ ?_ hrun ?_; exact rfl; exact rfl; exact rfl; exact rfl; exact rfl))
  go_ret
  have hN := HN.out
  subst hN
  exact ⟨rfl, HBB.out.setCell (p := ⟨w.heap.size, 2, none⟩) (Nat.le_refl _) _, A', c', ⟨HG5.out, HCP.out, HRG.out, fun x hx => (HDT.out x hx).2 _, H.out.eq, HTOP.out, (fun a e _ => by have := HA'.out a e; omega), HND.out, H.out.lt⟩, HA'.out⟩
end Go.Proofs.YtkajhdbcnmafcaaGreatDoor
namespace Go.Proofs.YtkajhdbcnmafcaaGreatDoor
open Go.RowKit Go.Deep Go.Maps Ln Pth Vf
set_option linter.unusedVariables false

/-- a call changed the reference's file system alone -/
def RK (g : Nat) (S' : St) (w : World) (A : Option Addr) (P : List NV) (w' : World) : Prop :=
  ∃ A' c' P', RSO g S' A' c' P' w' ∧ Kp w w' (fun k => k = g) ∧ (∀ a, A' = some a → P' ≠ [] → w.heap.size ≤ a.block ∨ (A = some a ∧ P ≠ [])) ∧
    ∀ x ∈ P', ∀ a, x.2.A = some a → x.2.nd.data ≠ [] → w.heap.size ≤ a.block ∨ ∃ y ∈ P, y.2.A = some a ∧ y.2.nd.data ≠ []
theorem RK.stay {g : Nat} {S : St} {A : Option Addr} {c : Nat} {P : List NV} {w w' : World} (h : RSO g S A c P w) (hb : Below w.heap.size w w') : RK g S w A P w' :=
  ⟨A, c, P, h.below hb, Kp.of_below hb _, fun a e hn => .inr ⟨e, hn⟩, fun x hx a e hn => .inr ⟨x, hx, e, hn⟩⟩
theorem RG.block_lt {α : Type} {enc : α → List Value} {n : Nat} {w : World} {A : Option Addr} {L : List α} (h : RG enc n w A L) {a : Addr} (e : A = some a) (hn : L ≠ []) : a.block < w.heap.size := by
  obtain ⟨y, hy⟩ : ∃ y, L[0]? = some y := ⟨L[0]'(List.length_pos_iff.2 hn), List.getElem?_eq_getElem _⟩
  obtain ⟨g2, o2, e2, hg2, _⟩ := h 0 y hy
  rw [e] at e2
  injection e2 with e2
  rw [e2]
  exact hg2
/-- as a call on things in blocks of their own -/
theorem RK.spec {P : Program} {f : FuncId} {args : Array Value} {g : Nat} {S S' : St} {r : Ending}
    (h : ∀ A c L w, RSO g S A c L w → Calls P f args w fun e w' => e = r ∧ RK g S' w A L w') : SpecN P f args (RS g S) (fun e => pureN (e = r) (RS g S')) := by
  rintro T N w hT ok
  obtain ⟨h1, A, c, L, h2, h3, h4, h5⟩ := hT
  have ho : RSO g S A c L w := ⟨h2, h3, h4.rg, fun x hx => (h4.dat x hx).1, h5, h4.top, fun a e hn he => (ok.1 g h1).2 (he ▸ h4.blk a e hn), fun x hx a e hn he => (ok.1 g h1).2 (he ▸ (h4.dat x hx).2 a e hn), h4.lt⟩
  refine (h A c L w ho).mono ?_
  rintro e w' ⟨rfl, A', c', L', o, hk, hA, hD⟩
  have hgl := (ok.1 g h1).1
  refine ⟨fun k => k = g, fun k => N k ∨ (w.heap.size ≤ k ∧ k < w'.heap.size), ⟨rfl, rfl, A', c', L', o.heap, o.cap, ⟨o.rg, fun a e hn => ?_, fun x hx => ⟨o.dat x hx, fun a e hn => ?_⟩, o.lt, o.top⟩, o.eq⟩, ⟨fun k hk => .inl (hk ▸ h1), fun k hk => .inl hk, fun k hk => hk.imp_right (·.1), fun k e => ?_, fun k hk' => ?_⟩, hk.mono (fun k e => e ▸ h1)⟩
  · rcases hA a e hn with h | ⟨h, h6⟩
    · exact .inr ⟨h, o.rg.block_lt e hn⟩
    · exact .inl (h4.blk a h h6)
  · rcases hD x hx a e hn with h | ⟨y, hy, h6, h7⟩
    · exact .inr ⟨h, (o.dat x hx).block_lt e hn⟩
    · exact .inl ((h4.dat y hy).2 a h6 h7)
  · subst e
    refine ⟨Nat.lt_of_lt_of_le hgl hk.size, ?_⟩
    rintro (h | ⟨h, _⟩)
    · exact (ok.1 k h1).2 h
    · omega
  · rcases hk' with h | ⟨_, h⟩
    · exact Nat.lt_of_lt_of_le (ok.2 k h) hk.size
    · exact h
/-- one behind the other -/
theorem RK.trans {g : Nat} {S' S'' : St} {w w' w'' : World} {A : Option Addr} {P : List NV} (h : RK g S' w A P w')
    (h' : ∀ A' c' P', RSO g S' A' c' P' w' → RK g S'' w' A' P' w'') : RK g S'' w A P w'' := by
  obtain ⟨A', c', P', o, hk, hA, hD⟩ := h
  obtain ⟨A2, c2, P2, o2, hk2, hA2, hD2⟩ := h' A' c' P' o
  refine ⟨A2, c2, P2, o2, hk.trans (hk2.mono fun k e => .inl e), fun a e hn => ?_, fun x hx a e hn => ?_⟩
  · rcases hA2 a e hn with h | ⟨h, h6⟩
    · exact .inl (Nat.le_trans hk.size h)
    · exact hA a h h6
  · rcases hD2 x hx a e hn with h | ⟨y, hy, h6, h7⟩
    · exact .inl (Nat.le_trans hk.size h)
    · exact hD y hy a h6 h7
/-- its four numbers change -/
theorem RSO.set {g : Nat} {S S' : St} {A A' : Option Addr} {c c' : Nat} {P P' : List NV} {w w' : World} (h : RSO g S A c P w) (hk : Kp w w' (fun k => k = g))
    (hg : w'.heap[g]? = some (.cells #[.int .i64 S'.nodes, .int .i64 S'.bytes, .slice A' P'.length c', .int .i64 S'.clock] 89)) (hc : P'.length ≤ c') (hm : S'.m = stripN P')
    (hA : RG encE 4 w' A' P') (hAg : ∀ a, A' = some a → P' ≠ [] → a.block ≠ g)
    (hD : ∀ x ∈ P', x.2.nd.data.length ≤ x.2.c ∧ RG encB 1 w' x.2.A x.2.nd.data ∧ (∀ a, x.2.A = some a → x.2.nd.data ≠ [] → a.block ≠ g)) (ht : ∀ a, A' = some a → ∃ g o, a = ⟨g, o, none⟩) : RSO g S' A' c' P' w' :=
  ⟨hg, hc, hA, fun x hx => (hD x hx).2.1, hm, ht, hAg, fun x hx => (hD x hx).2.2, fun x hx => (hD x hx).1⟩
theorem RG.kp {α : Type} {enc : α → List Value} {n : Nat} {w w' : World} {A : Option Addr} {L : List α} {g : Nat} (h : RG enc n w A L) (hk : Kp w w' (fun k => k = g)) (hg : ∀ a, A = some a → L ≠ [] → a.block ≠ g) : RG enc n w' A L :=
  h.ofB hk.size (fun a e hn => hk.block a.block (h.block_lt e hn) (hg a e hn))
theorem Kp.ofGb {w w' : World} {g : Nat} (h : w.grownBy w' (some g)) : Kp w w' (fun k => k = g) := ⟨h.os, h.tape, h.output, h.size, fun k hk hn => h.block k hk (fun e => hn (Option.some.inj e))⟩
theorem Kp.set (w : World) (g j : Nat) (v : Value) : Kp w (w.setCell ⟨g, j, none⟩ v) (fun k => k = g) := ⟨rfl, rfl, rfl, by simp, fun k hk hne => Below.heap_setCell _ _ _ _ (by simpa using hne)⟩
theorem Kp.then {w w' w'' : World} {S : Nat → Prop} (h : Kp w w' S) (h' : Kp w' w'' S) : Kp w w'' S := h.trans (h'.mono fun k e => .inl e)
/-- its clock -/
theorem RSO.tick {g : Nat} {S : St} {A : Option Addr} {c : Nat} {P : List NV} {w : World} (h : RSO g S A c P w) (n : Nat) : RSO g { S with clock := n } A c P (w.setCell ⟨g, 3, none⟩ (.int .i64 n)) := by
  have hk := Kp.set w g 3 (.int .i64 n)
  exact h.set hk ((heapSet (j := 3) h.heap (.int .i64 n)).trans rfl) h.cap h.eq (h.rg.kp hk h.neA) h.neA (fun x hx => ⟨h.lt x hx, (h.dat x hx).kp hk (h.neD x hx), h.neD x hx⟩) h.top
theorem putG_ne {α : Type} (x : ByteArray × α) (P : KV α) : putG x P ≠ [] := by
  cases P with
  | nil => simp [putG]
  | cons y P => rw [putG]; split; simp; split <;> simp
/-- behind put -/
theorem RSO.putted {g : Nat} {S S' : St} {A A' : Option Addr} {c c' : Nat} {P : List NV} {x : NV} {w w' : World} (h : RSO g S A c P w) (hm : S'.m = putG (x.1, x.2.nd) S.m)
    (hg : w'.heap[g]? = some (.cells #[.int .i64 S'.nodes, .int .i64 S'.bytes, .slice A' (putG x P).length c', .int .i64 S'.clock] 89)) (hc : (putG x P).length ≤ c') (hr : RG encE 4 w' A' (putG x P)) (hA : ∀ a, A' = some a → w.heap.size ≤ a.block)
    (hk : Kp w w' (fun k => k = g)) (hx : RG encB 1 w x.2.A x.2.nd.data) (hxg : ∀ a, x.2.A = some a → x.2.nd.data ≠ [] → a.block ≠ g) (hxl : x.2.nd.data.length ≤ x.2.c) : RSO g S' A' c' (putG x P) w' := by
  have hgl : g < w.heap.size := (Array.getElem?_eq_some_iff.1 h.heap).1
  refine h.set hk hg hc (by rw [hm, h.eq, ← strip_put]) hr (fun a e _ => by have := hA a e; omega) (fun y hy => ?_) (fun a e => ?_)
  · rcases mem_putG hy with rfl | hy
    · exact ⟨hxl, hx.kp hk hxg, hxg⟩
    · exact ⟨h.lt y hy, (h.dat y hy).kp hk (h.neD y hy), h.neD y hy⟩
  · have hne := putG_ne x P
    obtain ⟨y, hy⟩ : ∃ y, (putG x P)[0]? = some y := ⟨(putG x P)[0]'(List.length_pos_iff.2 hne), List.getElem?_eq_getElem _⟩
    obtain ⟨g2, o2, e2, _, _⟩ := hr 0 y hy
    rw [e] at e2
    injection e2 with e2
    exact ⟨g2, o2, e2⟩
theorem RK.pre {g : Nat} {S' : St} {w w1 w' : World} {A : Option Addr} {P : List NV} (hb : Below w.heap.size w w1) (h : RK g S' w1 A P w') : RK g S' w A P w' := by
  obtain ⟨A', c', P', o, hk, hA, hD⟩ := h
  exact ⟨A', c', P', o, (Kp.of_below hb _).then hk, fun a e hn => (hA a e hn).imp_left (Nat.le_trans hb.size), fun x hx a e hn => (hD x hx a e hn).imp_left (Nat.le_trans hb.size)⟩
end Go.Proofs.YtkajhdbcnmafcaaGreatDoor
