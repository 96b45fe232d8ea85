/- Walks of the reference's SameParts and SameWords, at parts that are the same. -/
import Derived.Test.YthcgnfoijemcbaaFieldWalkB
import Derived.Test.YthcgnfoijemcbaaFieldLawA
namespace Go.Proofs.Ythcgnfoijemcbaa
open Go.RowKit Go.Deep
set_option linter.unusedSimpArgs false
set_option linter.unusedVariables false
attribute [local go_sem] bt_eq

/-- a part that is settled -/
def okQ (x : Pt) : Prop := x.name = ⟨#[]⟩ ∧ x.op = ⟨#[]⟩ ∧ x.wn = 0 ∧ x.q = false
set_option maxRecDepth 100000 in
set_option maxHeartbeats 4000000 in
theorem sameparts_any (A B : Option Addr) (c d : Nat) (L : List Pt) (w : World) (hA : RG encPt 6 w A L) (hB : RG encPt 6 w B L) (hl : L.length ≤ 1000000) (hq : ∀ x ∈ L, okQ x) :
    Calls Try.prog 14 #[.slice A L.length c, .slice B L.length d] w fun e w' => e = .returned (.bool true) ∧ Drew w w' := by
  have HA := hide hA
  have HB := hide hB
  have HQ := hide hq
  obtain ⟨n, hn⟩ : ∃ n, L.length = n := ⟨_, rfl⟩
  have HN := hide hn
  rw [hn] at hl ⊢
  have hni : (n : Int) ≤ 1000000 := by omega
  clear hA hB hq hn
  go_enter Try.func14, Try.ntmps14
  go_wp2
  go_loopw [5] (fun v5 wr => ∃ k : Nat, v5 = .int .i64 k ∧ k ≤ n ∧ Hid (Drew w wr)) (fun v5 _ => n - (intOf v5).toNat)
  case atStart => exact ⟨0, rfl, by omega, hide ⟨0, rfl⟩⟩
  case round =>
    obtain ⟨wo, hwo⟩ : ∃ Z, Z = wr := ⟨_, rfl⟩
    subst hwo
    obtain ⟨k, rfl, hk, HD⟩ := hrel
    by_cases hlt : k < n
    case neg =>
      obtain rfl : k = n := by omega
      go_wp2
      go_ret
      exact ⟨rfl, HD.out⟩
    obtain ⟨x, hx⟩ : ∃ x, L[k]? = some x := ⟨L[k]'(by have := HN.out; omega), List.getElem?_eq_getElem _⟩
    obtain ⟨g, o, rfl, hg, hc⟩ := (HA.out.drew HD.out) k x hx
    obtain ⟨g2, o2, rfl, hg2, hd⟩ := (HB.out.drew HD.out) k x hx
    have hc0 : wo.cell? ⟨g, o + k * 6, none⟩ = some (.int .i64 x.kind) := by have := hc 0 _ rfl; simpa using this
    have hc1 : wo.cell? ⟨g, o + k * 6 + 1, none⟩ = some (.string x.text) := hc 1 _ rfl
    have hc2 : wo.cell? ⟨g, o + k * 6 + 2, none⟩ = some (.string x.name) := hc 2 _ rfl
    have hc3 : wo.cell? ⟨g, o + k * 6 + 3, none⟩ = some (.string x.op) := hc 3 _ rfl
    have hc4 : wo.cell? ⟨g, o + k * 6 + 4, none⟩ = some (.slice x.wA x.wn x.wc) := hc 4 _ rfl
    have hc5 : wo.cell? ⟨g, o + k * 6 + 5, none⟩ = some (.bool x.q) := hc 5 _ rfl
    have hd0 : wo.cell? ⟨g2, o2 + k * 6, none⟩ = some (.int .i64 x.kind) := by have := hd 0 _ rfl; simpa using this
    have hd1 : wo.cell? ⟨g2, o2 + k * 6 + 1, none⟩ = some (.string x.text) := hd 1 _ rfl
    have hd2 : wo.cell? ⟨g2, o2 + k * 6 + 2, none⟩ = some (.string x.name) := hd 2 _ rfl
    have hd3 : wo.cell? ⟨g2, o2 + k * 6 + 3, none⟩ = some (.string x.op) := hd 3 _ rfl
    have hd4 : wo.cell? ⟨g2, o2 + k * 6 + 4, none⟩ = some (.slice x.wA x.wn x.wc) := hd 4 _ rfl
    have hd5 : wo.cell? ⟨g2, o2 + k * 6 + 5, none⟩ = some (.bool x.q) := hd 5 _ rfl
    have b1 : (k : Int) < (n : Int) := by omega
    obtain ⟨q1, q2, q3, q4⟩ := HQ.out x (List.mem_of_getElem? hx)
    rw [q1] at hc2 hd2
    rw [q2] at hc3 hd3
    rw [q3] at hc4 hd4
    rw [q4] at hc5 hd5
    clear hc hd hx q1 q2 q3 q4
    go_wp2_with fail
    go_quiet (fail)
    go_wp2
    exact ⟨⟨k + 1, by go_num, by omega, hide (HD.out.more _)⟩, by simp [intOf]; omega⟩
set_option maxRecDepth 100000 in
set_option maxHeartbeats 4000000 in
theorem samewords_any (A B : Option Addr) (c d : Nat) (O P : List FR) (w : World) (hA : RG encFR 1 w A O) (hB : RG encFR 1 w B P) (he : O.map FR.L = P.map FR.L) (hl : O.length ≤ 1000000)
    (hr : ∀ r ∈ O, RG encPt 6 w r.A r.L) (hs : ∀ r ∈ P, RG encPt 6 w r.A r.L) (hq : ∀ r ∈ O, r.L.length ≤ 1000000 ∧ ∀ x ∈ r.L, okQ x) :
    Calls Try.prog 9 #[.slice A O.length c, .slice B P.length d] w fun e w' => e = .returned (.bool true) ∧ Below w.heap.size w w' := by
  have HA := hide hA
  have HB := hide hB
  have HR := hide hr
  have HS := hide hs
  have HQ := hide hq
  have HE := hide he
  have hlen : P.length = O.length := by have := congrArg List.length he; simpa using this.symm
  rw [hlen]
  have HLN := hide hlen
  obtain ⟨n, hn⟩ : ∃ n, O.length = n := ⟨_, rfl⟩
  have HN := hide hn
  rw [hn] at hl ⊢
  have hni : (n : Int) ≤ 1000000 := by omega
  clear hA hB hq hn hr hs he hlen
  go_enter Try.func9, Try.ntmps9
  go_wp2
  go_loopw [5] (fun v5 wr => ∃ k : Nat, v5 = .int .i64 k ∧ k ≤ n ∧ Hid (Below w.heap.size w wr)) (fun v5 _ => n - (intOf v5).toNat)
  case atStart => exact ⟨0, rfl, by omega, hide (Below.refl _ _)⟩
  case round =>
    obtain ⟨wo, hwo⟩ : ∃ Z, Z = wr := ⟨_, rfl⟩
    subst hwo
    obtain ⟨k, rfl, hk, HBE⟩ := hrel
    by_cases hlt : k < n
    case neg =>
      obtain rfl : k = n := by omega
      go_wp2
      go_ret
      exact ⟨rfl, HBE.out⟩
    obtain ⟨x, hx⟩ : ∃ x, O[k]? = some x := ⟨O[k]'(by have := HN.out; omega), List.getElem?_eq_getElem _⟩
    obtain ⟨y, hy⟩ : ∃ y, P[k]? = some y := ⟨P[k]'(by have := HN.out; have := HLN.out; omega), List.getElem?_eq_getElem _⟩
    have hxy : x.L = y.L := by
      have h1 := congrArg (fun l => l[k]?) HE.out
      simp only [List.getElem?_map, hx, hy, Option.map_some] at h1
      injection h1
    obtain ⟨g, o, rfl, hg, hc⟩ := HA.out.below HBE.out k x hx
    obtain ⟨g2, o2, rfl, hg2, hd⟩ := HB.out.below HBE.out k y hy
    have hc0 : wo.cell? ⟨g, o + k, none⟩ = some (.slice x.A x.L.length x.c) := by have := hc 0 _ rfl; simpa using this
    have hd0 : wo.cell? ⟨g2, o2 + k, none⟩ = some (.slice y.A x.L.length y.c) := by have := hd 0 _ rfl; rw [hxy]; simpa using this
    have b1 : (k : Int) < (n : Int) := by omega
    have h1 := (HR.out x (List.mem_of_getElem? hx)).below HBE.out
    have h2 := (HS.out y (List.mem_of_getElem? hy)).below HBE.out
    rw [← hxy] at h2
    obtain ⟨h3, h4⟩ := HQ.out x (List.mem_of_getElem? hx)
    have HSM := hide (fun (W : World) (hW : Below wo.heap.size wo W) => sameparts_any x.A y.A x.c y.c x.L W (h1.below hW) (h2.below hW) h3 h4)
    obtain ⟨m, hm⟩ : ∃ m, x.L.length = m := ⟨_, rfl⟩
    obtain ⟨xA, hxA⟩ : ∃ m, x.A = m := ⟨_, rfl⟩
    obtain ⟨yA, hyA⟩ : ∃ m, y.A = m := ⟨_, rfl⟩
    obtain ⟨xc, hxc⟩ : ∃ m, x.c = m := ⟨_, rfl⟩
    obtain ⟨yc, hyc⟩ : ∃ m, y.c = m := ⟨_, rfl⟩
    rw [hm, hxA, hxc] at hc0
    rw [hm, hyA, hyc] at hd0
    rw [hm, hxA, hxc, hyA, hyc] at HSM
    clear hc hd hx hy hxy h1 h2 h3 h4 hm hxA hyA hxc hyc
    go_wp2_with fail
    go_region_held3 (fun w' => w'.cell? ⟨g, o + k, none⟩ = some (.slice xA m xc) ∧ w'.cell? ⟨g2, o2 + k, none⟩ = some (.slice yA m yc))
      (first | exact ⟨hc0, hd0⟩ | exact ⟨u1, u2⟩)
      ((go_at_call 14; refine (HSM.out _ (below_drewN (Below.refl _ _) _)).mono ?_; rintro e w5 ⟨rfl, n5, rfl⟩; have u1 := hc0; have u2 := hd0))
    rename_i hHeld
    clear hHeld u1 u2
    go_wp2
    exact ⟨⟨k + 1, by go_num, by omega, hide (below_drewN HBE.out _)⟩, by simp [intOf]; omega⟩
end Go.Proofs.Ythcgnfoijemcbaa
