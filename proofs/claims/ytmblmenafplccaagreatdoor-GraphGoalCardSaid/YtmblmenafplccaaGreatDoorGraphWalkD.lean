/- Walk of graph.Order. -/
import Derived.Test.YtmblmenafplccaaGreatDoorGraphWalkC
namespace Go.Proofs.YtmblmenafplccaaGreatDoor
open Go.RowKit Go.Deep Go.Maps Ln Pth Vf
set_option linter.unusedSimpArgs false
set_option linter.unusedVariables false
attribute [local go_sem] bt_eq mkMapB

/-- what Order tells -/
def OrP (P : ByteArray → Pn) (is : ByteArray → Bool) (L : List ByteArray) (w : World) (e : Ending) (w' : World) : Prop := ∃ (r : Se) (c : Nat), OrR P is L se0 r c ∧ Below w.heap.size w w' ∧
  ∃ (A : Option Addr) (k : Nat), e = .returned (.tuple #[.slice A (if c = 0 then r.done.length else 0) k, .int .i64 c]) ∧ (c = 0 → SR w' A r.done)
theorem GI.start (w : World) (C : Gc) (o : Obj) : GI w C (w.heap.size + 1 + 1) (w.heap.size + 1) se0 (fun k => k = w.heap.size + 1 ∨ k = w.heap.size + 1 + 1) (((w.alloc o).alloc (.map #[] 0)).alloc (.cells (gcells C (w.heap.size + 1) (.slice none 0 0) (.slice none 0 0)) 83)) := by
  have h1 := heapNew ((w.alloc o).alloc (.map #[] 0)) (.cells (gcells C (w.heap.size + 1) (.slice none 0 0) (.slice none 0 0)) 83)
  have h2 := MSet.made (w.alloc o)
  simp only [World.size_alloc] at h1 h2
  refine ⟨(((Below.refl _ _).alloc (Nat.le_refl _) _).alloc (by simp) _).alloc (by simp; omega) _, .inr rfl, .inl rfl, by omega, ?_, h2.of (Below.heap_alloc _ _ _ (by simp)), List.nodup_nil, .slice none 0 0, .slice none 0 0, [], h1, OwnG.nil _ _, OwnS.nil _ _, fun k e => by simp [Value.ownBlock] at e, fun k e => by simp [Value.ownBlock] at e, rfl, fun o ho => by cases ho⟩
  rintro k (rfl | rfl)
  · exact ⟨by omega, by simp⟩
  · exact ⟨by omega, by simp⟩
set_option linter.unusedSimpArgs false in
set_option maxRecDepth 100000 in
set_option maxHeartbeats 4000000 in
theorem order_any (v0 v1 : Value) (gf : Nat) (cwd : ByteArray) (P : ByteArray → Pn) (is : ByteArray → Bool) (Gd : ByteArray → Prop) (A : Option Addr) (c : Nat) (L : List ByteArray) (w : World) (hG : GH w ⟨v0, v1, gf, cwd⟩ P is Gd) (hA : SR w A L) (hl : L.length ≤ 1000000) (hgd : ∀ x ∈ L, Gd x) :
    Calls Tryz.prog 12 #[.agg #[v0, v1], .pointer (some ⟨gf, 0, none⟩), .string cwd, .slice A L.length c] w (OrP P is L w) := by
  have HG := hide hG
  have HA := hide hA
  have HGD := hide hgd
  have HST := hide (GI.start w ⟨v0, v1, gf, cwd⟩ (.cells #[v0, v1] 26))
  obtain ⟨n, hn⟩ : ∃ n, L.length = n := ⟨_, rfl⟩
  rw [hn] at hl ⊢
  have HN := hide hn
  have hni : (n : Int) ≤ 1000000 := by omega
  clear hG hA hgd hn
  go_enter Tryz.func12, Tryz.ntmps12
  go_wp2_with fail
  go_loopg [8, 9, 12, 13, 22] n (fun q _ _ _ _ v22 wr => ∃ (k : Nat) (s' : Se), q = n - k ∧ v22 = .int .i64 k ∧ k ≤ n ∧ Hid (∀ r c, OrR P is (L.drop k) s' r c → OrR P is L se0 r c) ∧ Hid (SeOk Gd s') ∧ ∃ T, GI w ⟨v0, v1, gf, cwd⟩ (w.heap.size + 1 + 1) (w.heap.size + 1) s' T wr)
  case atStart => exact ⟨0, se0, rfl, rfl, by omega, fun _ _ h => h, SeOk.start Gd, _, HST.out⟩
  case round =>
    obtain ⟨k, s', hq, rfl, hk, HOR, HSO, T, hgi⟩ := hrel
    have HGI := hide hgi
    have HAR := hide (HA.out.below hgi.below)
    clear hgi
    by_cases hlt : k < n
    · obtain ⟨x, hx⟩ : ∃ x, L[k]? = some x := ⟨L[k]'(by have := HN.out; omega), List.getElem?_eq_getElem _⟩
      obtain ⟨gs, o, rfl, hgs, hc⟩ := HAR.out k x hx
      have HX := hide hx
      have b1 : (k : Int) < (n : Int) := by omega
      have HGO := hide (goal_any w ⟨v0, v1, gf, cwd⟩ P is Gd HG.out (w.heap.size + 1 + 1) (w.heap.size + 1) s' T x wr HGI.out (HGD.out x (List.mem_of_getElem? hx)) HSO.out)
      have HDR := hide (show L.drop k = x :: L.drop (k + 1) by
        obtain ⟨h1, h2⟩ := List.getElem?_eq_some_iff.1 hx
        rw [List.drop_eq_getElem_cons h1, h2])
      clear hx hgs
      unfold GoP at HGO
      go_wp2_with fail
      refine HGO.out.mono ?_
      rintro e w2 ⟨r, c, hr, rfl, hok, hp⟩
      have HR := hide hr
      have HP := hide hp
      by_cases hc0 : c = 0
      · subst hc0
        have HOK2 := hide (hok rfl)
        clear hr hok hp
        go_wp2
        go_roundg (n - (k + 1))
        case measure => omega
        case rel =>
          obtain ⟨T', f, _, _⟩ := HP.out
          exact ⟨k + 1, r, rfl, by go_num, by omega, fun r' c' h => HOR.out r' c' (by rw [HDR.out]; exact .cons HR.out h), HOK2.out, T', f⟩
      · have HC0 := hide hc0
        obtain ⟨t1, t2⟩ := ne0 hc0
        clear hr hok hp hc0
        go_wp2
        (try rw [Exit.noGoto_ret])
        go_ret2
        refine ⟨r, c, HOR.out r c (by rw [HDR.out]; exact .err HR.out HC0.out), HP.out.below, none, 0, ?_, fun h => absurd h HC0.out⟩
        rw [if_neg HC0.out]
        rfl
    · obtain rfl : n = k := by omega
      obtain ⟨A4, c4, A6, c6, hc4, hc6, _, _, hsr⟩ := HGI.out.cells
      have HSR := hide hsr
      have HE := hide (HOR.out s' 0 (by rw [List.drop_of_length_le (by have := HN.out; omega)]; exact .nil))
      clear hsr
      go_wp2
      (try rw [Exit.noGoto_ret])
      go_ret2
      exact ⟨s', 0, HE.out, HGI.out.below, A6, c6, rfl, fun _ => HSR.out⟩
end Go.Proofs.YtmblmenafplccaaGreatDoor
