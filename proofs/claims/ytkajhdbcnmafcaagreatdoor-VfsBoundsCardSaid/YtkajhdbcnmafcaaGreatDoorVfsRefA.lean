/- How the reference's file system lies in memory: a row of nodes by rising paths, that never changes; its at, kind, way, find, Kind, Time, size. Walks of the reference's find, Kind, Time, size. Walks of the reference's Time, Read, names, List. Walks of the reference's Read, List. -/
import Derived.Test.YtkajhdbcnmafcaaGreatDoorVfsWalkA
import Derived.Test.YtkajhdbcnmafcaaGreatDoorPathRef
import Derived.Test.YtkajhdbcnmafcaaGreatDoorStrsWalk
import Derived.Deep.RegionHeld3
namespace Go.Proofs.YtkajhdbcnmafcaaGreatDoor
open Go.RowKit Go.Deep Go.Maps Ln Pth Vf
set_option linter.unusedSimpArgs false
set_option linter.unusedVariables false
attribute [local go_sem] bt_eq

/-- a node of the reference's: its path, and where its bytes lie -/
abbrev NV := ByteArray × En
def encE (x : NV) : List Value := [.string x.1, .bool x.2.nd.dir, .slice x.2.A x.2.nd.data.length x.2.c, .int .i64 x.2.nd.time]
theorem encE_len (x : NV) : (encE x).length = 4 := rfl
theorem encE_one (x : NV) : ∀ u ∈ encE x, u.oneCell' = true := by
  intro u hu
  simp only [encE, List.mem_cons, List.not_mem_nil, or_false] at hu
  rcases hu with rfl | rfl | rfl | rfl <;> rfl
/-- a row of nodes in blocks that never change -/
structure ER (N : Nat → Prop) (w : World) (A : Option Addr) (P : List NV) : Prop where
  rg : RG encE 4 w A P
  blk : ∀ a, A = some a → P ≠ [] → N a.block
  dat : ∀ x ∈ P, RG encB 1 w x.2.A x.2.nd.data ∧ ∀ a, x.2.A = some a → x.2.nd.data ≠ [] → N a.block
  lt : ∀ x ∈ P, x.2.nd.data.length ≤ x.2.c
  top : ∀ a, A = some a → ∃ g o, a = ⟨g, o, none⟩
def RS (g : Nat) (S : St) : AsnN := fun T N w => T g ∧ ∃ (A : Option Addr) (c : Nat) (P : List NV),
  w.heap[g]? = some (.cells #[.int .i64 S.nodes, .int .i64 S.bytes, .slice A P.length c, .int .i64 S.clock] 89) ∧ P.length ≤ c ∧ ER N w A P ∧ S.m = stripN P
theorem RG.ofB {α : Type} {enc : α → List Value} {n : Nat} {w w' : World} {A : Option Addr} {L : List α} (h : RG enc n w A L) (hs : w.heap.size ≤ w'.heap.size) (hb : ∀ a, A = some a → L ≠ [] → w'.heap[a.block]? = w.heap[a.block]?) : RG enc n w' A L := fun k x hk => by
  obtain ⟨g, o, e, hg, h1⟩ := h k x hk
  have hbk := hb _ e (by rintro rfl; simp at hk)
  exact ⟨g, o, e, Nat.lt_of_lt_of_le hg hs, fun j v hj => (World.cell?_of_block (a := ⟨g, o + k * n + j, none⟩) hbk).trans (h1 j v hj)⟩
theorem ER.of {N N' : Nat → Prop} {w w' : World} {A : Option Addr} {P : List NV} (h : ER N w A P) (hs : w.heap.size ≤ w'.heap.size) (hb : ∀ k, N k → w'.heap[k]? = w.heap[k]?) (hn : ∀ k, N k → N' k) : ER N' w' A P :=
  ⟨h.rg.ofB hs (fun a e h1 => hb _ (h.blk a e h1)), fun a e h1 => hn _ (h.blk a e h1), fun x hx => ⟨(h.dat x hx).1.ofB hs (fun a e h1 => hb _ ((h.dat x hx).2 a e h1)), fun a e h1 => hn _ ((h.dat x hx).2 a e h1)⟩, h.lt, h.top⟩
theorem RS.fr (g : Nat) (S : St) : FrN (RS g S) := by
  rintro T N N' w w' ⟨h1, A, c, P, h2, h3, h4, h5⟩ hb hn hs
  exact ⟨h1, A, c, P, (hb g (.inl h1)).trans h2, h3, h4.of hs (fun k hk => hb k (.inr hk)) hn, h5⟩
/-- what its cells hold -/
structure RSO (g : Nat) (S : St) (A : Option Addr) (c : Nat) (P : List NV) (w : World) : Prop where
  heap : w.heap[g]? = some (.cells #[.int .i64 S.nodes, .int .i64 S.bytes, .slice A P.length c, .int .i64 S.clock] 89)
  cap : P.length ≤ c
  rg : RG encE 4 w A P
  dat : ∀ x ∈ P, RG encB 1 w x.2.A x.2.nd.data
  eq : S.m = stripN P
  top : ∀ a, A = some a → ∃ g o, a = ⟨g, o, none⟩
  neA : ∀ a, A = some a → P ≠ [] → a.block ≠ g
  neD : ∀ x ∈ P, ∀ a, x.2.A = some a → x.2.nd.data ≠ [] → a.block ≠ g
  lt : ∀ x ∈ P, x.2.nd.data.length ≤ x.2.c
theorem RSO.below {g : Nat} {S : St} {A : Option Addr} {c : Nat} {P : List NV} {w w' : World} (h : RSO g S A c P w) (hb : Below w.heap.size w w') : RSO g S A c P w' :=
  ⟨(hb.block g (Array.getElem?_eq_some_iff.1 h.heap).1).trans h.heap, h.cap, h.rg.below hb, fun x hx => (h.dat x hx).below hb, h.eq, h.top, h.neA, h.neD, h.lt⟩
theorem RS.o {g : Nat} {S : St} {w : World} (h : Hs (RS g S) w) : ∃ A c P, RSO g S A c P w := by
  obtain ⟨T, N, ⟨h1, A, c, P, h2, h3, h4, h5⟩, ok⟩ := h
  exact ⟨A, c, P, h2, h3, h4.rg, fun x hx => (h4.dat x hx).1, h5, h4.top, fun a e hn he => (ok.1 g h1).2 (he ▸ h4.blk a e hn), fun x hx a e hn he => (ok.1 g h1).2 (he ▸ (h4.dat x hx).2 a e hn), h4.lt⟩
/-- where a path is among the nodes -/
def atN (P : List NV) (s : ByteArray) : Int := match P.findIdx? (fun x => decide (x.1 = s)) with
  | none => -1
  | some k => (k : Int)
theorem findIdx_take {α : Type} {p : α → Bool} : ∀ {P : List α} {k : Nat} {x : α}, P[k]? = some x → (∀ y ∈ P.take k, p y = false) → p x = true → P.findIdx? p = some k
  | [], k, x, h, _, _ => by simp at h
  | y :: P, 0, x, h, _, hp => by
    simp at h
    subst h
    simp [List.findIdx?_cons, hp]
  | y :: P, k + 1, x, h, hn, hp => by
    have h1 := hn y (by simp)
    have ih := findIdx_take (P := P) (k := k) (x := x) (by simpa using h) (fun z hz => hn z (by simp [hz])) hp
    simp [List.findIdx?_cons, h1, ih]
theorem findIdx_none {α : Type} {p : α → Bool} {P : List α} (h : ∀ y ∈ P, p y = false) : P.findIdx? p = none := by
  rw [List.findIdx?_eq_none_iff]
  exact h
theorem atN_at {P : List NV} {s : ByteArray} {k : Nat} {x : NV} (h : P[k]? = some x) (hn : ∀ y ∈ P.take k, y.1 ≠ s) (hx : x.1 = s) : atN P s = (k : Int) := by
  unfold atN
  rw [findIdx_take h (fun y hy => by simpa using hn y hy) (by simpa using hx)]
theorem atN_no {P : List NV} {s : ByteArray} (h : ∀ y ∈ P, y.1 ≠ s) : atN P s = -1 := by
  unfold atN
  rw [findIdx_none (fun y hy => by simpa using h y hy)]
/-- either a node is there, or none -/
theorem atN_cases (P : List NV) (s : ByteArray) : (atN P s = -1 ∧ getG (stripN P) s = none) ∨ ∃ (k : Nat) (x : NV), atN P s = (k : Int) ∧ P[k]? = some x ∧ x.1 = s ∧ getG (stripN P) s = some x.2.nd := by
  have hg : getG (stripN P) s = (P.find? fun x => decide (x.1 = s)).map fun x => x.2.nd := by
    rw [strip_get]
    unfold getG
    cases P.find? fun x => decide (x.1 = s) <;> rfl
  by_cases h : ∃ y ∈ P, y.1 = s
  · obtain ⟨y, hy, he⟩ := h
    cases hf : P.find? (fun x => decide (x.1 = s)) with
    | none => exact absurd (List.find?_eq_none.1 hf y hy) (by simp [he])
    | some z =>
      obtain ⟨hz, ys, zs, e, hn⟩ := List.find?_eq_some_iff_append.1 hf
      refine .inr ⟨ys.length, z, ?_, by rw [e]; simp, by simpa using hz, by rw [hg, hf]; rfl⟩
      exact atN_at (x := z) (by rw [e]; simp) (fun y hy => by rw [e, List.take_left'  rfl] at hy; simpa using hn y hy) (by simpa using hz)
  · have hn : ∀ y ∈ P, y.1 ≠ s := fun y hy e => h ⟨y, hy, e⟩
    refine .inl ⟨atN_no hn, ?_⟩
    rw [hg, List.find?_eq_none.2 (fun y hy => by simpa using hn y hy)]
    rfl
set_option maxRecDepth 100000 in
set_option maxHeartbeats 2000000 in
theorem rat4_any (g : Nat) (S : St) (A : Option Addr) (c : Nat) (P : List NV) (s : ByteArray) (w : World) (h : RSO g S A c P w) (hl : P.length ≤ 1000000) :
    Calls Tryz.prog 105 #[.pointer (some ⟨g, 0, none⟩), .string s] w fun e w' => e = .returned (.int .i64 (atN P s)) ∧ w = w' := by
  have HR := hide h.rg
  have hg := h.heap
  obtain ⟨n, hn⟩ : ∃ n, P.length = n := ⟨_, rfl⟩
  rw [hn] at hg hl
  have HN := hide hn
  have hc2 := cellOf hg (j := 2) (v := .slice A n c) rfl
  have hni : (n : Int) ≤ 1000000 := by omega
  clear h hg hn
  go_enter Tryz.func105, Tryz.ntmps105
  go_wp2
  go_loopw [5] (fun v5 wr => ∃ k : Nat, v5 = .int .i64 k ∧ k ≤ n ∧ Hid (∀ y ∈ P.take k, y.1 ≠ s) ∧ w = wr) (fun v5 _ => n - (intOf v5).toNat)
  case atStart => exact ⟨0, rfl, by omega, (by intro y hy; simp at hy), rfl⟩
  case round =>
    obtain ⟨k, rfl, hk, HNO, rfl⟩ := hrel
    by_cases hlt : k < n
    · obtain ⟨x, hx⟩ : ∃ x, P[k]? = some x := ⟨P[k]'(by have := HN.out; omega), List.getElem?_eq_getElem _⟩
      obtain ⟨gs, o, rfl, hgs, hc⟩ := HR.out k x hx
      have hc0 : w.cell? ⟨gs, o + k * 4, none⟩ = some (.string x.1) := by have := hc 0 _ rfl; simpa using this
      have b1 : (k : Int) < (n : Int) := by omega
      have HX := hide hx
      obtain ⟨xs, hxs⟩ : ∃ t, x.1 = t := ⟨_, rfl⟩
      rw [hxs] at hc0
      have HXS := hide hxs
      clear hc hx hxs
      by_cases he : xs = s
      · have e1 : (xs.toList == s.toList) = true := by rw [he]; simp
        have HE := hide (atN_at HX.out HNO.out (HXS.out.trans he))
        clear he
        go_wp2
        go_ret
        rw [HE.out]
        exact ⟨rfl, rfl⟩
      · have e1 : (xs.toList == s.toList) = false := by
          rw [ByteArray.toList_eq, ByteArray.toList_eq]
          simp only [beq_eq_false_iff_ne]
          exact fun h => he (ByteArray.ext (Array.ext' h))
        have HN2 := hide (show ∀ y ∈ P.take (k + 1), y.1 ≠ s from fun y hy => by
          rw [List.take_add_one, HX.out] at hy
          rcases List.mem_append.1 hy with hy | hy
          · exact HNO.out y hy
          · simp at hy
            rw [hy, HXS.out]; exact he)
        clear he
        go_wp2
        go_roundw
        case rel => exact ⟨k + 1, by go_num, by omega, HN2.out, trivial⟩
        case measure => simp [intOf]; omega
    · obtain rfl : n = k := by omega
      have HE := hide (show atN P s = -1 from atN_no (by
        have := HNO.out
        rwa [List.take_of_length_le (by have := HN.out; omega)] at this))
      go_wp2
      go_ret
      rw [HE.out]
      exact ⟨rfl, rfl⟩
theorem way_take {m : Mp} {l : List T} (h : ∀ s ∈ l, 47 ∉ s) (hne : l ≠ []) : wayM m (joinF l) = wayL m (l.take 1) (l.drop 1) := by
  rw [way_join m h]
  cases l with
  | nil => exact absurd rfl hne
  | cons s r => rfl
set_option maxRecDepth 100000 in
set_option maxHeartbeats 2000000 in
theorem rkind_any (g : Nat) (S : St) (A : Option Addr) (c : Nat) (P : List NV) (q : T) (w : World) (h : RSO g S A c P w) (hl : P.length ≤ 1000000) :
    Calls Tryz.prog 71 #[.pointer (some ⟨g, 0, none⟩), .string (bs q)] w fun e w' => e = .returned (.int .i64 (kindM S.m q)) ∧ w = w' := by
  have HAT := hide (rat4_any g S A c P (bs q) w h hl)
  have hk : kindM S.m q = if q = [47] then 2 else match getG S.m (bs q) with
    | none => 0
    | some n => if n.dir = true then 2 else 1 := rfl
  have hcs := atN_cases P (bs q)
  rw [← h.eq] at hcs
  have hrg := h.rg
  have hg := h.heap
  obtain ⟨n, hn⟩ : ∃ n, P.length = n := ⟨_, rfl⟩
  rw [hn] at hg
  have hc2 := cellOf hg (j := 2) (v := .slice A n c) rfl
  by_cases hq : q = [47]
  · have e1 : ((bs q).toList == [47]) = true := by rw [bs_toList, hq]; rfl
    have HE := hide (hk.trans (if_pos hq))
    clear h hk hcs hrg hg hn hq
    go_enter Tryz.func71, Tryz.ntmps71
    go_wp2
    go_ret
    rw [HE.out]
    exact ⟨rfl, rfl⟩
  have e1 : ((bs q).toList == [47]) = false := by rw [bs_toList]; simpa using hq
  rw [if_neg hq] at hk
  rcases hcs with ⟨ha, hgt⟩ | ⟨k, x, ha, hx, hxq, hgt⟩
  · rw [hgt] at hk
    rw [ha] at HAT
    have HE := hide hk
    clear h hk hrg hg hn hq ha hgt
    go_enter Tryz.func71, Tryz.ntmps71
    go_wp2_with fail
    refine HAT.out.mono ?_
    rintro e w' ⟨rfl, rfl⟩
    go_wp2
    go_ret
    rw [HE.out]
    exact ⟨rfl, rfl⟩
  · rw [hgt] at hk
    dsimp only at hk
    rw [ha] at HAT
    obtain ⟨gs, o, rfl, hgs, hc⟩ := hrg k x hx
    have hc1 : w.cell? ⟨gs, o + k * 4 + 1, none⟩ = some (.bool x.2.nd.dir) := hc 1 _ rfl
    have hkn : k < n := by rw [← hn]; exact (List.getElem?_eq_some_iff.1 hx).1
    have hki : (k : Int) < (n : Int) := by omega
    have hk0 : (0 : Int) ≤ (k : Int) := by omega
    have d0 : decide ((k : Int) < 0) = false := by simp
    obtain ⟨b, hb⟩ : ∃ b, x.2.nd.dir = b := ⟨_, rfl⟩
    rw [hb] at hc1 hk
    clear h hrg hg hn hq ha hgt hx hxq hc hb hgs
    cases b with
    | true =>
      have HE := hide (hk.trans (if_pos rfl))
      clear hk
      go_enter Tryz.func71, Tryz.ntmps71
      go_wp2_with fail
      refine HAT.out.mono ?_
      rintro e w' ⟨rfl, rfl⟩
      go_wp2
      go_ret
      rw [HE.out]
      exact ⟨rfl, rfl⟩
    | false =>
      have HE := hide (hk.trans (if_neg (by simp)))
      clear hk
      go_enter Tryz.func71, Tryz.ntmps71
      go_wp2_with fail
      refine HAT.out.mono ?_
      rintro e w' ⟨rfl, rfl⟩
      go_wp2
      go_ret
      rw [HE.out]
      exact ⟨rfl, rfl⟩
theorem wayL_zero {m : Mp} {pre r : List T} {s : T} (h : kindM m (joinF pre) = 0) : wayL m pre (s :: r) = 6 := by rw [wayL, if_pos h]
theorem wayL_one {m : Mp} {pre r : List T} {s : T} (h : kindM m (joinF pre) = 1) : wayL m pre (s :: r) = 11 := by rw [wayL, if_neg (by omega), if_pos h]
theorem wayL_two {m : Mp} {pre r : List T} {s : T} (h0 : kindM m (joinF pre) ≠ 0) (h1 : kindM m (joinF pre) ≠ 1) : wayL m pre (s :: r) = wayL m (pre ++ [s]) r := by rw [wayL, if_neg h0, if_neg h1]
set_option maxRecDepth 100000 in
set_option maxHeartbeats 2000000 in
theorem rway_any (g : Nat) (S : St) (A : Option Addr) (c : Nat) (P : List NV) (l : List T) (w : World) (h : RSO g S A c P w) (hl : P.length ≤ 1000000) (hok : ∀ s ∈ l, okN s) (hlen : (joinF l).length ≤ 1000) :
    Calls Tryz.prog 70 #[.pointer (some ⟨g, 0, none⟩), .string (bs (joinF l))] w fun e w' => e = .returned (.int .i64 (wayM S.m (joinF l))) ∧ Below w.heap.size w w' := by
  have HPA := hide (rparts_any [47] (joinF l) w (by simp) (by omega))
  rw [show bs [47] = ⟨#[47]⟩ from rfl, parts_join hok] at HPA
  have HK := hide (fun (q : T) (W : World) (hb : Below w.heap.size w W) => rkind_any g S A c P q W (h.below hb) hl)
  have h47 : ∀ s ∈ l, 47 ∉ s := fun s hs => (hok s hs).2.2.2
  have hsl : (slashed l).length ≤ 1000 := by
    unfold joinF at hlen
    split at hlen
    · rename_i e; rw [e]; simp [slashed]
    · exact hlen
  have hll : l.length ≤ 1000 := by
    have : l.length ≤ (slashed l).length := by
      rw [slashed_len]
      clear hsl HPA hlen h47 hok
      induction l with
      | nil => simp
      | cons s l ih => simp only [List.length_cons, List.map_cons, List.sum_cons]; omega
    omega
  have HW := hide (show l ≠ [] → wayM S.m (joinF l) = wayL S.m (l.take 1) (l.drop 1) from way_take h47)
  have HW0 := hide (show l = [] → wayM S.m (joinF l) = 0 from by rintro rfl; rfl)
  have HSL := hide hsl
  obtain ⟨R, hR⟩ : ∃ R, wayM S.m (joinF l) = R := ⟨_, rfl⟩
  rw [hR] at HW HW0 ⊢
  obtain ⟨J, hJ⟩ : ∃ J, bs (joinF l) = J := ⟨_, rfl⟩
  rw [hJ] at HPA ⊢
  clear h hok h47 hlen hsl hR hJ
  go_enter Tryz.func70, Tryz.ntmps70
  go_wp2_with fail
  refine HPA.out.mono ?_
  rintro e w1 ⟨⟨v, rfl, ho⟩, hb1⟩
  obtain ⟨B, d, rfl, hd, hsr, _⟩ := OwnS.slice ho
  have HA := hide hsr
  have HB1 := hide hb1
  rw [List.length_map] at hd ⊢
  obtain ⟨n, hn⟩ : ∃ n, l.length = n := ⟨_, rfl⟩
  rw [hn] at hd hll ⊢
  have HN := hide hn
  have hni : (n : Int) ≤ 1000 := by omega
  clear ho hb1 hsr hn
  go_wp2_with fail
  go_loopw [6] (fun v6 wr => ∃ k : Nat, v6 = .int .i64 k ∧ 1 ≤ k ∧ Hid (k ≤ n → wayL S.m (l.take k) (l.drop k) = R) ∧ (k ≤ n ∨ (n = 0 ∧ k = 1)) ∧ w1 = wr) (fun v6 _ => n - (intOf v6).toNat)
  case atStart =>
    refine ⟨1, rfl, Nat.le_refl _, (fun h => (HW.out (by rintro rfl; have := HN.out; simp at this; omega)).symm), ?_, rfl⟩
    by_cases h : n = 0
    · exact .inr ⟨h, rfl⟩
    · exact .inl (by omega)
  case round =>
    obtain ⟨k, rfl, hk1, HWL, hkn, rfl⟩ := hrel
    by_cases hlt : k < n
    · have b1 : (k : Int) < (n : Int) := by omega
      have hkd : (k : Int) ≤ (d : Int) := by omega
      have hk0 : (0 : Int) ≤ (k : Int) := by omega
      have hwk : IntKind.i64.wrap (k : Int) = (k : Int) := IntWalk.i64_in _ (by omega)
      obtain ⟨x, hx⟩ : ∃ x, l[k]? = some x := ⟨l[k]'(by have := HN.out; omega), List.getElem?_eq_getElem _⟩
      have hdr : l.drop k = x :: l.drop (k + 1) := by
        obtain ⟨h1, h2⟩ := List.getElem?_eq_some_iff.1 hx
        rw [List.drop_eq_getElem_cons h1, h2]
      have htk : l.take (k + 1) = l.take k ++ [x] := by rw [List.take_add_one, hx]; rfl
      have hwl := HWL.out (by omega)
      rw [hdr] at hwl
      have hwr := rwrite_any B d (l.take k) w1 (by rw [List.map_take]; exact HA.out.take k) (by have := slashed_take_len l k; have := HSL.out; omega) (by rw [List.length_take]; omega)
      rw [show (l.take k).length = k by rw [List.length_take, HN.out]; omega] at hwr
      have hkq := HK.out (joinF (l.take k)) w1 HB1.out
      obtain ⟨J2, hJ2⟩ : ∃ J, bs (joinF (l.take k)) = J := ⟨_, rfl⟩
      rw [hJ2] at hwr hkq
      obtain ⟨y, hy⟩ : ∃ y, kindM S.m (joinF (l.take k)) = y := ⟨_, rfl⟩
      rw [hy] at hkq
      have HWR := hide hwr
      have HKQ := hide hkq
      have HWX := hide hwl
      have HTK := hide htk
      have HY := hide hy
      clear hx hdr htk hwl hwr hkq hJ2 hy
      by_cases y0 : y = 0
      · subst y0
        have HE := hide (show R = 6 by rw [← HWX.out]; exact wayL_zero HY.out)
        go_wp2_with fail
        refine HWR.out.mono ?_
        rintro e w' ⟨rfl, rfl⟩
        go_wp2_with fail
        refine HKQ.out.mono ?_
        rintro e w' ⟨rfl, rfl⟩
        go_wp2
        go_ret
        rw [HE.out]
        exact ⟨rfl, HB1.out⟩
      by_cases y1 : y = 1
      · subst y1
        have HE := hide (show R = 11 by rw [← HWX.out]; exact wayL_one HY.out)
        clear y0
        go_wp2_with fail
        refine HWR.out.mono ?_
        rintro e w' ⟨rfl, rfl⟩
        go_wp2_with fail
        refine HKQ.out.mono ?_
        rintro e w' ⟨rfl, rfl⟩
        go_wp2
        go_ret
        rw [HE.out]
        exact ⟨rfl, HB1.out⟩
      have HNX := hide (show wayL S.m (l.take (k + 1)) (l.drop (k + 1)) = R by rw [← HWX.out, HTK.out]; exact (wayL_two (by rw [HY.out]; exact y0) (by rw [HY.out]; exact y1)).symm)
      have t0 : ((y : Int) == 0) = false := by simp; omega
      have t1 : ((y : Int) == 1) = false := by simp; omega
      clear y0 y1
      go_wp2_with fail
      refine HWR.out.mono ?_
      rintro e w' ⟨rfl, rfl⟩
      go_wp2_with fail
      refine HKQ.out.mono ?_
      rintro e w' ⟨rfl, rfl⟩
      go_wp2
      go_roundw
      case rel => exact ⟨k + 1, by go_num, by omega, (fun _ => HNX.out), .inl (by omega), trivial⟩
      case measure => simp [intOf]; omega
    · have b1 : ¬ (k : Int) < (n : Int) := by omega
      have HE := hide (show R = 0 by
        rcases hkn with h | ⟨h, _⟩
        · rw [← HWL.out h, List.drop_of_length_le (by have := HN.out; omega)]
          rfl
        · exact HW0.out (List.eq_nil_of_length_eq_zero (by have := HN.out; omega)))
      clear hkn
      go_wp2
      go_ret
      rw [HE.out]
      exact ⟨rfl, HB1.out⟩
end Go.Proofs.YtkajhdbcnmafcaaGreatDoor
namespace Go.Proofs.YtkajhdbcnmafcaaGreatDoor
open Go.RowKit Go.Deep Go.Maps Ln Pth Vf
set_option linter.unusedSimpArgs false
set_option linter.unusedVariables false
attribute [local go_sem] bt_eq

/-- a path, and the error of it or of its way -/
def findR (S : St) (p : T) : T × Nat := if (absF [47] p).2 ≠ 0 then ([], (absF [47] p).2) else ((absF [47] p).1, wayM S.m (absF [47] p).1)
set_option maxRecDepth 100000 in
set_option maxHeartbeats 2000000 in
theorem rfind_any (g : Nat) (S : St) (A : Option Addr) (c : Nat) (P : List NV) (p : T) (w : World) (h : RSO g S A c P w) (hl : P.length ≤ 1000000) (hp : p.length ≤ 100000) :
    Calls Tryz.prog 104 #[.pointer (some ⟨g, 0, none⟩), .string (bs p)] w fun e w' => e = .returned (.tuple #[.string (bs (findR S p).1), .int .i64 (findR S p).2]) ∧ Below w.heap.size w w' := by
  have HA := hide (rabs_any [47] p w (by simp) hp)
  rw [show bs [47] = ⟨#[47]⟩ from rfl] at HA
  have hR : findR S p = if (absF [47] p).2 ≠ 0 then ([], (absF [47] p).2) else ((absF [47] p).1, wayM S.m (absF [47] p).1) := rfl
  have hW : (absF [47] p).2 = 0 → ∀ W, Below w.heap.size w W → Calls Tryz.prog 70 #[.pointer (some ⟨g, 0, none⟩), .string (bs (absF [47] p).1)] W fun e w' => e = .returned (.int .i64 (wayM S.m (absF [47] p).1)) ∧ Below W.heap.size W w' := fun h0 W hb => by
    rcases absF_cases [47] p with ⟨l, gd, e, _⟩ | ⟨_, e⟩
    · rw [e]
      exact rway_any g S A c P l W (h.below hb) hl gd.ok (by have := gd.len; omega)
    · exact absurd h0 (by omega)
  unfold AbsPost at HA
  obtain ⟨q, hq⟩ : ∃ q, (absF [47] p).1 = q := ⟨_, rfl⟩
  obtain ⟨e, he⟩ : ∃ q, (absF [47] p).2 = q := ⟨_, rfl⟩
  rw [hq, he] at HA hR hW
  have HR := hide hR
  have HW := hide hW
  clear hR hW h hq he
  by_cases c1 : e = 0
  · subst c1
    have HE := hide (HR.out.trans (if_neg (by simp)))
    have HW2 := hide (HW.out rfl)
    obtain ⟨y, hy⟩ : ∃ y, wayM S.m q = y := ⟨_, rfl⟩
    rw [hy] at HW2 HE
    clear hy HR HW
    go_enter Tryz.func104, Tryz.ntmps104
    go_wp2_with fail
    refine HA.out.mono ?_
    rintro e w1 ⟨rfl, hb⟩
    have HB := hide hb
    clear hb
    go_wp2_with fail
    refine (HW2.out w1 HB.out).mono ?_
    rintro e w2 ⟨rfl, hb⟩
    have HB2 := hide (below_up HB.out hb HB.out.size)
    clear hb
    go_wp2
    go_ret2
    rw [HE.out]
    exact ⟨rfl, HB2.out⟩
  · obtain ⟨t1, t2⟩ := ne0 c1
    have HE := hide (HR.out.trans (if_pos c1))
    clear c1
    go_enter Tryz.func104, Tryz.ntmps104
    go_wp2_with fail
    refine HA.out.mono ?_
    rintro e w1 ⟨rfl, hb⟩
    have HB := hide hb
    clear hb
    go_wp2
    go_ret2
    rw [HE.out]
    exact ⟨rfl, HB.out⟩
theorem findR_abs (S : St) (p : T) : (findR S p).2 = (absS S p).2 ∧ ((absS S p).2 = 0 → (findR S p).1 = (absS S p).1) := by
  unfold findR absS
  by_cases h : (absF [47] p).2 = 0
  · rw [if_neg (by simp [h]), if_neg (by simp [h])]
    by_cases h2 : wayM S.m (absF [47] p).1 = 0
    · rw [if_neg (by simp [h2])]
      exact ⟨h2, fun _ => rfl⟩
    · rw [if_pos h2]
      exact ⟨rfl, fun h => absurd h h2⟩
  · rw [if_pos h, if_pos h]
    exact ⟨rfl, fun _ => rfl⟩
/-- a file system of the reference's tells where the way is -/
theorem rfind_abs (g : Nat) (S : St) (A : Option Addr) (c : Nat) (P : List NV) (p : T) (w : World) (h : RSO g S A c P w) (hl : P.length ≤ 1000000) (hp : p.length ≤ 100000) :
    Calls Tryz.prog 104 #[.pointer (some ⟨g, 0, none⟩), .string (bs p)] w fun e w' => ∃ q, e = .returned (.tuple #[.string (bs q), .int .i64 (absS S p).2]) ∧ ((absS S p).2 = 0 → q = (absS S p).1) ∧ q.length ≤ 200 ∧ Below w.heap.size w w' := by
  refine (rfind_any g S A c P p w h hl hp).mono ?_
  rintro e w' ⟨rfl, hb⟩
  refine ⟨(findR S p).1, by rw [(findR_abs S p).1], (findR_abs S p).2, ?_, hb⟩
  unfold findR
  split
  · simp
  · rcases absF_cases [47] p with ⟨l, gd, e, _⟩ | ⟨e, _⟩
    · rw [e]; exact gd.len
    · rw [e]; simp
set_option maxRecDepth 100000 in
set_option maxHeartbeats 2000000 in
theorem rKind_any (g : Nat) (S : St) (A : Option Addr) (c : Nat) (P : List NV) (p : T) (w : World) (h : RSO g S A c P w) (hl : P.length ≤ 1000000) (hp : p.length ≤ 100000) :
    Calls Tryz.prog 28 #[.pointer (some ⟨g, 0, none⟩), .string (bs p)] w fun e w' => e = .returned (.int .i64 (kindS S p)) ∧ Below w.heap.size w w' := by
  have HA := hide (rabs_any [47] p w (by simp) hp)
  rw [show bs [47] = ⟨#[47]⟩ from rfl] at HA
  have hR : kindS S p = if (absF [47] p).2 ≠ 0 then 0 else if wayM S.m (absF [47] p).1 ≠ 0 then 0 else kindM S.m (absF [47] p).1 := by
    unfold kindS absS
    by_cases h : (absF [47] p).2 = 0
    · by_cases h2 : wayM S.m (absF [47] p).1 = 0
      · simp only [h, h2, ne_eq, not_true_eq_false, if_false]
      · simp only [h, h2, ne_eq, not_true_eq_false, not_false_eq_true, if_false, if_true]
    · simp only [h, ne_eq, not_true_eq_false, not_false_eq_true, if_false, if_true]
  have hW : (absF [47] p).2 = 0 → ∀ W, Below w.heap.size w W → Calls Tryz.prog 70 #[.pointer (some ⟨g, 0, none⟩), .string (bs (absF [47] p).1)] W fun e w' => e = .returned (.int .i64 (wayM S.m (absF [47] p).1)) ∧ Below W.heap.size W w' := fun h0 W hb => by
    rcases absF_cases [47] p with ⟨l, gd, e, _⟩ | ⟨_, e⟩
    · rw [e]
      exact rway_any g S A c P l W (h.below hb) hl gd.ok (by have := gd.len; omega)
    · exact absurd h0 (by omega)
  have HK := hide (fun (q : T) (W : World) (hb : Below w.heap.size w W) => rkind_any g S A c P q W (h.below hb) hl)
  unfold AbsPost at HA
  obtain ⟨q, hq⟩ : ∃ q, (absF [47] p).1 = q := ⟨_, rfl⟩
  obtain ⟨e, he⟩ : ∃ q, (absF [47] p).2 = q := ⟨_, rfl⟩
  rw [hq, he] at HA hR hW
  have HR := hide hR
  have HW := hide hW
  clear hR hW h hq he
  by_cases c1 : e = 0
  · subst c1
    have hE := HR.out.trans (if_neg (by simp))
    have HW2 := hide (HW.out rfl)
    have HKQ := hide (HK.out q)
    obtain ⟨y, hy⟩ : ∃ y, wayM S.m q = y := ⟨_, rfl⟩
    rw [hy] at HW2 hE
    obtain ⟨z, hz⟩ : ∃ y, kindM S.m q = y := ⟨_, rfl⟩
    rw [hz] at HKQ hE
    have HE := hide hE
    clear hy HR HW hz hE HK
    by_cases y0 : y = 0
    · subst y0
      have HE2 := hide (HE.out.trans (if_neg (by simp)))
      go_enter Tryz.func28, Tryz.ntmps28
      go_wp2_with fail
      refine HA.out.mono ?_
      rintro e w1 ⟨rfl, hb⟩
      have HB := hide hb
      clear hb
      go_wp2_with fail
      refine (HW2.out w1 HB.out).mono ?_
      rintro e w2 ⟨rfl, hb⟩
      have HB2 := hide (below_up HB.out hb HB.out.size)
      clear hb
      go_wp2_with fail
      refine (HKQ.out w2 HB2.out).mono ?_
      rintro e w' ⟨rfl, rfl⟩
      go_wp2
      go_ret
      rw [HE2.out]
      exact ⟨rfl, HB2.out⟩
    · obtain ⟨t1, t2⟩ := ne0 y0
      have HE2 := hide (HE.out.trans (if_pos y0))
      clear y0
      go_enter Tryz.func28, Tryz.ntmps28
      go_wp2_with fail
      refine HA.out.mono ?_
      rintro e w1 ⟨rfl, hb⟩
      have HB := hide hb
      clear hb
      go_wp2_with fail
      refine (HW2.out w1 HB.out).mono ?_
      rintro e w2 ⟨rfl, hb⟩
      have HB2 := hide (below_up HB.out hb HB.out.size)
      clear hb
      go_wp2
      go_ret
      rw [HE2.out]
      exact ⟨rfl, HB2.out⟩
  · obtain ⟨t1, t2⟩ := ne0 c1
    have HE := hide (HR.out.trans (if_pos c1))
    clear c1
    go_enter Tryz.func28, Tryz.ntmps28
    go_wp2_with fail
    refine HA.out.mono ?_
    rintro e w1 ⟨rfl, hb⟩
    have HB := hide hb
    clear hb
    go_wp2
    go_ret
    rw [HE.out]
    exact ⟨rfl, HB.out⟩
/-- the bytes in all nodes -/
def sizeR (P : List NV) : Nat := (P.map fun x => x.2.nd.data.length).sum
theorem sizeR_eq {S : St} {P : List NV} (h : S.m = stripN P) (hS : WfS S) : sizeR P = S.used := by
  rw [hS.sum, h]
  unfold stripN sizeR
  rw [List.map_map]
  rfl
theorem sizeR_take {P : List NV} {k : Nat} {x : NV} (h : P[k]? = some x) : sizeR (P.take (k + 1)) = sizeR (P.take k) + x.2.nd.data.length := by
  unfold sizeR
  rw [List.take_add_one, h]
  simp
theorem sizeR_le (P : List NV) (k : Nat) : sizeR (P.take k) ≤ sizeR P := by
  unfold sizeR
  conv => rhs; rw [← List.take_append_drop k P, List.map_append, List.sum_append]
  omega
set_option maxRecDepth 100000 in
set_option maxHeartbeats 2000000 in
theorem rsize_any (g : Nat) (S : St) (A : Option Addr) (c : Nat) (P : List NV) (w : World) (h : RSO g S A c P w) (hl : P.length ≤ 1000000) (hs : sizeR P ≤ 100000000) :
    Calls Tryz.prog 106 #[.pointer (some ⟨g, 0, none⟩)] w fun e w' => e = .returned (.int .i64 (sizeR P)) ∧ w = w' := by
  have HR := hide h.rg
  have hg := h.heap
  obtain ⟨n, hn⟩ : ∃ n, P.length = n := ⟨_, rfl⟩
  rw [hn] at hg hl
  have HN := hide hn
  have HS := hide hs
  have hc2 := cellOf hg (j := 2) (v := .slice A n c) rfl
  have hni : (n : Int) ≤ 1000000 := by omega
  clear h hg hn hs
  go_enter Tryz.func106, Tryz.ntmps106
  go_wp2
  go_loopw [3, 4] (fun v3 v4 wr => ∃ k : Nat, v4 = .int .i64 k ∧ k ≤ n ∧ v3 = .int .i64 (sizeR (P.take k)) ∧ w = wr) (fun _ v4 _ => n - (intOf v4).toNat)
  case atStart => exact ⟨0, rfl, by omega, by simp [sizeR], rfl⟩
  case round =>
    obtain ⟨k, rfl, hk, rfl, rfl⟩ := hrel
    by_cases hlt : k < n
    · obtain ⟨x, hx⟩ : ∃ x, P[k]? = some x := ⟨P[k]'(by have := HN.out; omega), List.getElem?_eq_getElem _⟩
      obtain ⟨gs, o, rfl, hgs, hc⟩ := HR.out k x hx
      have hc3 : w.cell? ⟨gs, o + k * 4 + 2, none⟩ = some (.slice x.2.A x.2.nd.data.length x.2.c) := hc 2 _ rfl
      have b1 : (k : Int) < (n : Int) := by omega
      have htk := sizeR_take hx
      have hle := sizeR_le P (k + 1)
      have hs := HS.out
      obtain ⟨m, hm⟩ : ∃ m, x.2.nd.data.length = m := ⟨_, rfl⟩
      obtain ⟨u, hu⟩ : ∃ m, sizeR (P.take k) = m := ⟨_, rfl⟩
      rw [hm] at hc3 htk
      rw [hu] at htk ⊢
      have HTK := hide htk
      have hui : (u : Int) + (m : Int) ≤ 100000000 := by omega
      have hu0 : (u : Int) ≤ 100000000 := by omega
      clear hc hx htk hle hs hm hu
      go_wp2
      go_roundw
      case rel => exact ⟨k + 1, by go_num, by omega, by rw [HTK.out]; go_num, trivial⟩
      case measure => simp [intOf]; omega
    · obtain rfl : n = k := by omega
      have htk : P.take n = P := List.take_of_length_le (by have := HN.out; omega)
      rw [htk]
      clear htk
      go_wp2
      go_ret
      exact ⟨rfl, rfl⟩
end Go.Proofs.YtkajhdbcnmafcaaGreatDoor
namespace Go.Proofs.YtkajhdbcnmafcaaGreatDoor
open Go.RowKit Go.Deep Go.Maps Ln Pth Vf
set_option linter.unusedSimpArgs false
set_option linter.unusedVariables false
attribute [local go_sem] bt_eq

theorem timeS_no {S : St} {p : T} (h : (absS S p).2 ≠ 0) : timeS S p = 0 := by unfold timeS; rw [if_pos h]
theorem timeS_at {S : St} {p : T} (h : (absS S p).2 = 0) : timeS S p = timeM S.m (absS S p).1 := by unfold timeS; rw [if_neg (by simp [h])]
set_option maxRecDepth 100000 in
set_option maxHeartbeats 2000000 in
theorem rTime_any (g : Nat) (S : St) (A : Option Addr) (c : Nat) (P : List NV) (p : T) (w : World) (h : RSO g S A c P w) (hl : P.length ≤ 1000000) (hp : p.length ≤ 100000) :
    Calls Tryz.prog 86 #[.pointer (some ⟨g, 0, none⟩), .string (bs p)] w fun e w' => e = .returned (.int .i64 (timeS S p)) ∧ Below w.heap.size w w' := by
  have HF := hide (rfind_abs g S A c P p w h hl hp)
  have HT := hide (timeS_no (S := S) (p := p))
  have HT2 := hide (timeS_at (S := S) (p := p))
  have H := hide h
  have HL := hide hl
  obtain ⟨r, hr⟩ : ∃ r, absS S p = r := ⟨_, rfl⟩
  obtain ⟨q0, e⟩ := r
  rw [hr] at HF HT HT2
  dsimp only at HF HT HT2
  obtain ⟨R, hR⟩ : ∃ R, timeS S p = R := ⟨_, rfl⟩
  rw [hR] at HT HT2 ⊢
  clear hr hR h hl hp
  go_enter Tryz.func86, Tryz.ntmps86
  go_wp2_with fail
  refine HF.out.mono ?_
  rintro e1 w1 ⟨q, rfl, hq, hql, hb⟩
  have HB := hide hb
  have HQ := hide hq
  have ho := H.out.below hb
  have hat := rat4_any g S A c P (bs q) w1 ho HL.out
  by_cases c1 : e = 0
  · subst c1
    have hq1 := hq rfl
    subst hq1
    have HE := hide (HT2.out rfl)
    have hcs := atN_cases P (bs q)
    rw [← ho.eq] at hcs
    have hrg := ho.rg
    have hg := ho.heap
    have hll := HL.out
    obtain ⟨n, hn⟩ : ∃ n, P.length = n := ⟨_, rfl⟩
    rw [hn] at hg hll
    have hc2 := cellOf hg (j := 2) (v := .slice A n c) rfl
    rcases hcs with ⟨ha, hgt⟩ | ⟨k, x, ha, hx, hxq, hgt⟩
    · rw [ha] at hat
      have HAT := hide hat
      have HE2 := hide (show R = 0 by rw [HE.out]; unfold timeM; rw [hgt])
      clear ho hq hb hat hrg hg hn ha hgt HE
      go_wp2_with fail
      refine HAT.out.mono ?_
      rintro e w' ⟨rfl, rfl⟩
      go_wp2
      go_ret
      rw [HE2.out]
      exact ⟨rfl, HB.out⟩
    · rw [ha] at hat
      have HAT := hide hat
      have HE2 := hide (show R = x.2.nd.time by rw [HE.out]; unfold timeM; rw [hgt])
      obtain ⟨gs, o, rfl, hgs, hc⟩ := hrg k x hx
      have hc3 : w1.cell? ⟨gs, o + k * 4 + 3, none⟩ = some (.int .i64 x.2.nd.time) := hc 3 _ rfl
      have hkn : k < n := by rw [← hn]; exact (List.getElem?_eq_some_iff.1 hx).1
      have hki : (k : Int) < (n : Int) := by omega
      have hk0 : (0 : Int) ≤ (k : Int) := by omega
      have d0 : decide ((k : Int) < 0) = false := by simp
      obtain ⟨t, ht⟩ : ∃ b, x.2.nd.time = b := ⟨_, rfl⟩
      rw [ht] at hc3 HE2
      clear ho hq hb hat hrg hg hn ha hgt HE hx hxq hc ht hgs
      go_wp2_with fail
      refine HAT.out.mono ?_
      rintro e w' ⟨rfl, rfl⟩
      go_wp2
      go_ret
      rw [HE2.out]
      exact ⟨rfl, HB.out⟩
  · obtain ⟨t1, t2⟩ := ne0 c1
    have HE := hide (HT.out c1)
    have HAT := hide hat
    clear c1 ho hq hb hat
    obtain ⟨z, hz⟩ : ∃ z, atN P (bs q) = z := ⟨_, rfl⟩
    rw [hz] at HAT
    clear hz
    go_wp2_with fail
    refine HAT.out.mono ?_
    rintro e w' ⟨rfl, rfl⟩
    go_wp2
    go_ret
    rw [HE.out]
    exact ⟨rfl, HB.out⟩
/-- the reference's names of a directory: each base into its place -/
def nmF (q : T) (acc : List T) (x : T) : List T := if dirF x = q then putT (baseF x) acc else acc
def nmR (q : T) (K : List T) : List T := K.foldl (nmF q) []
theorem nmR_rise (q : T) : ∀ (K : List T) (acc : List T), acc.Pairwise (· < ·) → (K.foldl (nmF q) acc).Pairwise (· < ·)
  | [], acc, h => h
  | x :: K, acc, h => by
    rw [List.foldl_cons]
    refine nmR_rise q K _ ?_
    unfold nmF
    split
    · exact putT_rise _ h
    · exact h
theorem nmR_mem (q s : T) : ∀ (K : List T) (acc : List T), s ∈ K.foldl (nmF q) acc ↔ s ∈ acc ∨ ∃ x ∈ K, dirF x = q ∧ baseF x = s
  | [], acc => by simp
  | x :: K, acc => by
    rw [List.foldl_cons, nmR_mem q s K]
    unfold nmF
    split
    · rename_i h
      rw [mem_putT]
      constructor
      · rintro ((rfl | h1) | ⟨y, hy, h1⟩)
        · exact .inr ⟨x, by simp, h, rfl⟩
        · exact .inl h1
        · exact .inr ⟨y, by simp [hy], h1⟩
      · rintro (h1 | ⟨y, hy, h1, h2⟩)
        · exact .inl (.inr h1)
        · rcases List.mem_cons.1 hy with rfl | hy
          · exact .inl (.inl h2.symm)
          · exact .inr ⟨y, hy, h1, h2⟩
    · rename_i h
      constructor
      · rintro (h1 | ⟨y, hy, h1⟩)
        · exact .inl h1
        · exact .inr ⟨y, by simp [hy], h1⟩
      · rintro (h1 | ⟨y, hy, h1, h2⟩)
        · exact .inl h1
        · rcases List.mem_cons.1 hy with rfl | hy
          · exact absurd h1 h
          · exact .inr ⟨y, hy, h1, h2⟩
theorem dir_join {l : List T} (h : ∀ s ∈ l, okN s) : dirF (joinF l) = joinF l.dropLast := by
  unfold dirF; rw [parts_join h]
theorem base_join {l : List T} (h : ∀ s ∈ l, okN s) : baseF (joinF l) = l.getLast?.getD [] := by
  unfold baseF; rw [parts_join h]
theorem slashed_last : ∀ {l : List T}, (∀ s ∈ l, okN s) → l ≠ [] → (slashed l).getLast? ≠ some 47 := by
  intro l h hne
  obtain ⟨a, s, rfl⟩ : ∃ a s, l = a ++ [s] := ⟨l.dropLast, l.getLast hne, (List.dropLast_concat_getLast hne).symm⟩
  obtain ⟨h1, _, _, h4⟩ := h s (by simp)
  rw [slashed_app]
  have e : slashed [s] = 47 :: s := by simp [slashed]
  rw [e, List.getLast?_append, List.getLast?_cons, List.getLast?_eq_some_getLast h1]
  simp
  intro e2
  exact h4 (e2 ▸ List.getLast_mem h1)
theorem front_join {l : List T} (h : ∀ s ∈ l, okN s) (s : T) : frontF (joinF l) ++ s = joinF (l ++ [s]) := by
  have e : slashed [s] = 47 :: s := by simp [slashed]
  have e2 : joinF (l ++ [s]) = slashed (l ++ [s]) := by unfold joinF; rw [if_neg (by simp)]
  rw [e2, slashed_app, e]
  by_cases hl : l = []
  · subst hl; rfl
  · have e3 : joinF l = slashed l := by unfold joinF; rw [if_neg hl]
    unfold frontF
    rw [e3, if_neg (slashed_last h hl)]
    simp
theorem last_slash : ∀ {a b s t : T}, 47 ∉ s → 47 ∉ t → a ++ 47 :: s = b ++ 47 :: t → a = b ∧ s = t := by
  intro a b s t hs ht h
  have hr := congrArg List.reverse h
  simp only [List.reverse_append, List.reverse_cons, List.append_assoc, List.singleton_append] at hr
  have key : ∀ (u v x y : T), 47 ∉ u → 47 ∉ v → u ++ 47 :: x = v ++ 47 :: y → u = v ∧ x = y := by
    intro u
    induction u with
    | nil =>
      intro v x y _ hv h
      cases v with
      | nil => simpa using h
      | cons c v => simp at h; exact absurd (by simp [h.1]) hv
    | cons c u ih =>
      intro v x y hu hv h
      cases v with
      | nil => simp at h; exact absurd (by simp [h.1]) hu
      | cons d v =>
        simp only [List.cons_append, List.cons.injEq] at h
        obtain ⟨h1, h2⟩ := ih v x y (fun e => hu (by simp [e])) (fun e => hv (by simp [e])) h.2
        exact ⟨by rw [h.1, h1], h2⟩
  obtain ⟨h1, h2⟩ := key _ _ _ _ (by simpa using hs) (by simpa using ht) hr
  exact ⟨List.reverse_inj.1 h2, List.reverse_inj.1 h1⟩
theorem join_front_eq {l l2 : List T} {s : T} (h : ∀ s ∈ l, okN s) (h2 : ∀ s ∈ l2, okN s) (hne : l2 ≠ []) (hs : 47 ∉ s) (he : joinF l2 = joinF (l ++ [s])) : l2 = l ++ [s] := by
  obtain ⟨a, z, rfl⟩ : ∃ a s, l2 = a ++ [s] := ⟨l2.dropLast, l2.getLast hne, (List.dropLast_concat_getLast hne).symm⟩
  have e : ∀ (l : List T) (s : T), joinF (l ++ [s]) = slashed l ++ 47 :: s := by
    intro l s
    unfold joinF
    rw [if_neg (by simp), slashed_app]
    simp [slashed]
  rw [e, e] at he
  obtain ⟨h1, h3⟩ := last_slash (h2 z (by simp)).2.2.2 hs he
  subst h3
  have : a = l := by
    refine joinF_inj (fun s hs => h2 s (by simp [hs])) h ?_
    unfold joinF
    by_cases ha : a = []
    · subst ha
      by_cases hl : l = []
      · subst hl; rfl
      · exact absurd h1.symm (slashed_ne hl)
    · by_cases hl : l = []
      · subst hl; exact absurd h1 (slashed_ne ha)
      · rw [if_neg ha, if_neg hl, h1]
  rw [this]
/-- the reference's names are the file system's -/
theorem nmR_names {S : St} (hS : WfS S) {l : List T} (hl : GoodP l) : nmR (joinF l) (S.m.map fun x => x.1.data.toList) = namesM S.m (joinF l) := by
  refine rise_ext (nmR_rise _ _ _ List.Pairwise.nil) (names_rise hS.rise _) (fun s => ?_)
  unfold nmR
  rw [nmR_mem, mem_names]
  constructor
  · rintro (h | ⟨x, hx, h1, h2⟩)
    · simp at h
    · obtain ⟨y, hy, rfl⟩ := List.mem_map.1 hx
      obtain ⟨l2, g2, n2, e2⟩ := hS.good y hy
      rw [e2, bs_list] at h1 h2
      rw [dir_join g2.ok] at h1
      rw [base_join g2.ok] at h2
      have h3 := joinF_inj (fun s hs => g2.ok s ((List.dropLast_sublist l2).subset hs)) hl.ok h1
      rw [List.getLast?_eq_some_getLast n2] at h2
      simp at h2
      have e3 : l2 = l ++ [s] := by rw [← h3, ← h2, List.dropLast_concat_getLast n2]
      refine ⟨(g2.ok s (by rw [e3]; simp)).2.2.2, y.2, ?_⟩
      rw [front_join hl.ok, ← e3, ← e2]
      exact hy
  · rintro ⟨h1, n, h2⟩
    refine .inr ⟨_, List.mem_map.2 ⟨_, h2, rfl⟩, ?_⟩
    obtain ⟨l2, g2, n2, e2⟩ := hS.good _ h2
    dsimp only at e2 ⊢
    rw [bs_list]
    rw [front_join hl.ok] at e2 ⊢
    have e3 := join_front_eq hl.ok g2.ok n2 h1 (bs_inj e2).symm
    rw [← e3, dir_join g2.ok, base_join g2.ok, e3]
    simp
theorem putS_bsT (s : T) : ∀ L : List T, putS (bs s) (L.map bs) = (putT s L).map bs
  | [] => rfl
  | y :: L => by
    have h1 : (sLt (bs y) (bs s) = true) ↔ y < s := sLt_iff _ _
    have h2 : bs y = bs s ↔ y = s := ⟨bs_inj, fun h => by rw [h]⟩
    show (if sLt (bs y) (bs s) then bs y :: putS (bs s) (L.map bs) else if bs y = bs s then bs y :: L.map bs else bs s :: bs y :: L.map bs) = _
    rw [putS_bsT s L, putT]
    by_cases c1 : y < s
    · rw [if_pos (h1.2 c1), if_pos c1]; rfl
    · rw [if_neg (fun h => c1 (h1.1 h)), if_neg c1]
      by_cases c2 : y = s
      · rw [if_pos (h2.2 c2), if_pos c2]; rfl
      · rw [if_neg (fun h => c2 (h2.1 h)), if_neg c2]; rfl
theorem putT_lenR (s : T) : ∀ L : List T, (putT s L).length ≤ L.length + 1
  | [] => by simp [putT]
  | y :: L => by
    have := putT_lenR s L
    rw [putT]
    split
    · simp; omega
    · split <;> simp
theorem nmF_len (q x : T) (acc : List T) : (nmF q acc x).length ≤ acc.length + 1 := by
  unfold nmF
  split
  · exact putT_lenR _ _
  · omega
theorem nmR_snoc (q x : T) (K : List T) : nmR q (K ++ [x]) = nmF q (nmR q K) x := by unfold nmR; rw [List.foldl_append]; rfl
/-- the paths of a row -/
def keysN (P : List NV) : List T := P.map fun x => x.1.data.toList
theorem keysN_eq {S : St} {P : List NV} (h : S.m = stripN P) : (S.m.map fun x => x.1.data.toList) = keysN P := by
  rw [h]; unfold stripN keysN; rw [List.map_map]; rfl
set_option maxRecDepth 100000 in
set_option maxHeartbeats 2000000 in
theorem rnames4_any (g : Nat) (S : St) (A : Option Addr) (c : Nat) (P : List NV) (q : T) (w : World) (h : RSO g S A c P w) (hl : P.length ≤ 10000) (hk : ∀ x ∈ P, ∃ t : T, x.1 = bs t ∧ t.length ≤ 1000) :
    Calls Tryz.prog 108 #[.pointer (some ⟨g, 0, none⟩), .string (bs q)] w fun e w' => (∃ A' c', e = .returned (.slice A' (nmR q (keysN P)).length c') ∧ SR w' A' ((nmR q (keysN P)).map bs) ∧ (nmR q (keysN P)).length ≤ c') ∧ Below w.heap.size w w' := by
  have H := hide h
  have HK := hide hk
  have HN := hide (rfl : P.length = P.length)
  obtain ⟨n, hn⟩ : ∃ n, P.length = n := ⟨_, rfl⟩
  have HNN := hide hn
  have hln : n ≤ 10000 := by omega
  clear h hk hl hn HN
  go_enter Tryz.func108, Tryz.ntmps108
  go_wp2
  go_loopw [5, 6] (fun v5 v6 wr => ∃ (k : Nat) (A' : Option Addr) (c' m : Nat), v6 = .int .i64 k ∧ k ≤ n ∧ v5 = .slice A' m c' ∧ Hid (m = (nmR q (keysN (P.take k))).length) ∧ m ≤ k ∧ m ≤ c' ∧ Hid (SR wr A' ((nmR q (keysN (P.take k))).map bs)) ∧ Hid (Below w.heap.size w wr)) (fun _ v6 _ => n - (intOf v6).toNat)
  case atStart =>
    refine ⟨0, none, 0, 0, rfl, by omega, rfl, ?_, by omega, by omega, ?_, Below.refl _ _⟩
    · show (0 : Nat) = _; simp [keysN, nmR]
    · intro k s hks; simp [keysN, nmR] at hks
  case round =>
    obtain ⟨k, A', c', m, rfl, hk, rfl, HM, hmk, hmc, HSR, HB⟩ := hrel
    have ho := H.out.below HB.out
    have hg := ho.heap
    have hrg := ho.rg
    rw [HNN.out] at hg
    have hc2 := cellOf hg (j := 2) (v := .slice A n c) rfl
    have hgb : g < wr.heap.size := (Array.getElem?_eq_some_iff.1 hg).1
    by_cases hlt : k < n
    · obtain ⟨x, hx⟩ : ∃ x, P[k]? = some x := ⟨P[k]'(by have := HNN.out; omega), List.getElem?_eq_getElem _⟩
      obtain ⟨gs, o, rfl, hgs, hc⟩ := hrg k x hx
      have hc0 : wr.cell? ⟨gs, o + k * 4, none⟩ = some (.string x.1) := by have := hc 0 _ rfl; simpa using this
      obtain ⟨t, hxt, htl⟩ := HK.out x (List.mem_of_getElem? hx)
      have hkt : keysN (P.take (k + 1)) = keysN (P.take k) ++ [t] := by
        unfold keysN
        rw [List.take_add_one, hx, List.map_append]
        simp [hxt, bs_list]
      rw [hxt] at hc0
      have hnm := nmR_snoc q t (keysN (P.take k))
      rw [← hkt] at hnm
      obtain ⟨Q, hQ⟩ : ∃ Q, nmR q (keysN (P.take k)) = Q := ⟨_, rfl⟩
      rw [hQ] at HM HSR hnm
      have HNM := hide hnm
      have b1 : (k : Int) < (n : Int) := by omega
      have HD := hide (fun W => rdir_any t W (by omega))
      have HBA := hide (fun W => rbase_any t W (by omega))
      have hg0 : gs < wr.heap.size := hgs
      have hm := HM.out
      have hps := fun (W : World) (hb : Below wr.heap.size wr W) => putstr_any A' c' (Q.map bs) (bs (baseF t)) W (HSR.out.below hb) (by rw [List.length_map]; omega) (by rw [List.length_map]; omega)
      rw [putS_bsT] at hps
      simp only [List.length_map, ← hm] at hps
      have HPS := hide hps
      clear hm hps hnm hQ hkt htl hxt hc hx hrg ho hg hgs
      by_cases hd : dirF t = q
      · have e1 : ((bs (dirF t)).toList == (bs q).toList) = true := by rw [hd]; simp
        have HE := hide (HNM.out.trans (if_pos hd))
        clear hd
        go_wp2_with fail
        refine (HD.out _).mono ?_
        rintro e w1 ⟨rfl, hb1⟩
        have hc2' := (hb1.cell (p := ⟨g, 2, none⟩) hgb).trans hc2
        have hc0' := (hb1.cell (p := ⟨gs, o + k * 4, none⟩) hg0).trans hc0
        have HB1 := hide hb1
        clear hb1
        go_wp2_with fail
        refine (HBA.out _).mono ?_
        rintro e w2 ⟨rfl, hb2⟩
        have HB2 := hide (below_up HB1.out hb2 HB1.out.size)
        clear hb2
        go_wp2_with fail
        refine (HPS.out w2 HB2.out).mono ?_
        rintro e w3 ⟨⟨A2, c2, rfl, hsr, hc3⟩, hb3⟩
        have HSR2 := hide hsr
        have HB3 := hide (below_up HB.out (below_up HB2.out hb3 HB2.out.size) HB.out.size)
        have HX := hide (And.intro hsr hc3)
        clear hsr hb3 hc3
        go_wp2
        go_roundw
        case rel =>
          have hpl := putT_lenR (baseF t) Q
          have hm := HM.out
          refine ⟨k + 1, A2, c2, (putT (baseF t) Q).length, by go_num, by omega, rfl, ?_, by omega, HX.out.2, ?_, HB3.out⟩
          · show _ = _; rw [HE.out]
          · show SR _ _ _; rw [HE.out]; exact HX.out.1
        case measure => simp [intOf]; omega
      · have e1 : ((bs (dirF t)).toList == (bs q).toList) = false := by rw [bs_toList, bs_toList]; simpa using hd
        have HE := hide (HNM.out.trans (if_neg hd))
        clear hd
        go_wp2_with fail
        refine (HD.out _).mono ?_
        rintro e w1 ⟨rfl, hb1⟩
        have HB1 := hide hb1
        clear hb1
        go_wp2
        go_roundw
        case rel =>
          refine ⟨k + 1, A', c', m, by go_num, by omega, rfl, ?_, by omega, by omega, ?_, below_up HB.out HB1.out HB.out.size⟩
          · show _ = _; rw [HE.out]; exact HM.out
          · show SR _ _ _; rw [HE.out]; exact HSR.out.below HB1.out
        case measure => simp [intOf]; omega
    · obtain rfl : n = k := by omega
      have htk : P.take n = P := List.take_of_length_le (by have := HNN.out; omega)
      rw [htk] at HM HSR
      have hm := HM.out
      have HMC := hide hmc
      clear htk ho hg hrg
      go_wp2
      go_ret
      exact ⟨⟨A', c', by rw [← hm]; rfl, HSR.out, by rw [← hm]; exact HMC.out⟩, HB.out⟩
end Go.Proofs.YtkajhdbcnmafcaaGreatDoor
namespace Go.Proofs.YtkajhdbcnmafcaaGreatDoor
open Go.RowKit Go.Deep Go.Maps Ln Pth Vf
set_option linter.unusedSimpArgs false
set_option linter.unusedVariables false
attribute [local go_sem] bt_eq

theorem readS_err {S : St} {p : T} (h : (absS S p).2 ≠ 0) : readS S p = ([], (absS S p).2) := by
  have : (foundS S p).2 = (absS S p).2 := by unfold foundS; simp [h]
  unfold readS; rw [this, if_pos h]
theorem found_none {S : St} {p : T} (h : (absS S p).2 = 0) (hk : kindM S.m (absS S p).1 = 0) : (foundS S p).2 = 6 := by unfold foundS; simp [h, hk]
theorem found_there {S : St} {p : T} (h : (absS S p).2 = 0) (hk : kindM S.m (absS S p).1 ≠ 0) : (foundS S p).2 = 0 := by unfold foundS; simp [h, hk]
theorem readS_none {S : St} {p : T} (h : (absS S p).2 = 0) (hk : kindM S.m (absS S p).1 = 0) : readS S p = ([], 6) := by
  unfold readS; rw [found_none h hk]; rfl
theorem readS_dir {S : St} {p : T} (h : (absS S p).2 = 0) (hk : kindM S.m (absS S p).1 = 2) : readS S p = ([], 10) := by
  unfold readS
  rw [found_there h (by omega)]
  have : (foundS S p).1 = (absS S p).1 := rfl
  rw [this, hk]; rfl
theorem readS_file {S : St} {p : T} (h : (absS S p).2 = 0) (hk : kindM S.m (absS S p).1 = 1) : readS S p = (dataM S.m (absS S p).1, 0) := by
  unfold readS
  rw [found_there h (by omega)]
  have : (foundS S p).1 = (absS S p).1 := rfl
  rw [this, hk]; rfl
/-- a file is a node -/
theorem file_node {S : St} {P : List NV} (h : S.m = stripN P) {q : T} (hk : kindM S.m q = 1) : ∃ (k : Nat) (x : NV), atN P (bs q) = (k : Int) ∧ P[k]? = some x ∧ dataM S.m q = x.2.nd.data := by
  have hr : q ≠ [47] := by rintro rfl; simp [kindM] at hk
  rcases atN_cases P (bs q) with ⟨_, hg⟩ | ⟨k, x, ha, hx, _, hg⟩
  · rw [← h] at hg
    unfold kindM at hk
    rw [if_neg hr, hg] at hk
    exact absurd hk (by simp)
  · refine ⟨k, x, ha, hx, ?_⟩
    unfold dataM
    rw [h, hg]
theorem RSO.drew {g : Nat} {S : St} {A : Option Addr} {c : Nat} {P : List NV} {w : World} (h : RSO g S A c P w) : RSO g S A c P w.drew := ⟨h.heap, h.cap, h.rg, h.dat, h.eq, h.top, h.neA, h.neD, h.lt⟩
set_option maxRecDepth 100000 in
set_option maxHeartbeats 2000000 in
theorem rRead_any (g : Nat) (S : St) (A : Option Addr) (c : Nat) (P : List NV) (p : T) (w : World) (h : RSO g S A c P w) (hl : P.length ≤ 1000000) (hp : p.length ≤ 100000) :
    Calls Tryz.prog 83 #[.pointer (some ⟨g, 0, none⟩), .string (bs p)] w fun e w' => (∃ B d, e = .returned (.tuple #[.slice B (readS S p).1.length d, .int .i64 (readS S p).2]) ∧ RG encB 1 w' B (readS S p).1) ∧ Below w.heap.size w w' := by
  have HF := hide (rfind_abs g S A c P p w h hl hp)
  have H := hide h
  have HL := hide hl
  have HR1 := hide (readS_err (S := S) (p := p))
  have HR2 := hide (readS_none (S := S) (p := p))
  have HR3 := hide (readS_dir (S := S) (p := p))
  have HR4 := hide (readS_file (S := S) (p := p))
  obtain ⟨r, hr⟩ : ∃ r, absS S p = r := ⟨_, rfl⟩
  obtain ⟨q0, e⟩ := r
  rw [hr] at HF HR1 HR2 HR3 HR4
  dsimp only at HF HR1 HR2 HR3 HR4
  obtain ⟨R, hR⟩ : ∃ R, readS S p = R := ⟨_, rfl⟩
  rw [hR] at HR1 HR2 HR3 HR4 ⊢
  clear hr hR h hl hp
  go_enter Tryz.func83, Tryz.ntmps83
  go_wp2_with fail
  refine HF.out.mono ?_
  rintro e1 w1 ⟨q, rfl, hq, hql, hb⟩
  have HB := hide hb
  have HQ := hide hq
  have ho := H.out.below hb
  by_cases c1 : e = 0
  · subst c1
    have hq1 := hq rfl
    subst hq1
    have hkd := rkind_any g S A c P q w1 ho HL.out
    have hkl := kind_le S.m q
    by_cases k0 : kindM S.m q = 0
    · have HE := hide (HR2.out rfl k0)
      rw [k0] at hkd
      have HKD := hide hkd
      clear ho hq hb hkd hkl k0
      go_wp2_with fail
      refine HKD.out.mono ?_
      rintro e w' ⟨rfl, rfl⟩
      go_wp2
      go_ret2
      refine ⟨⟨none, 0, by rw [HE.out]; rfl, ?_⟩, HB.out⟩
      rw [HE.out]
      intro k x hk; simp at hk
    by_cases k2 : kindM S.m q = 2
    · have HE := hide (HR3.out rfl k2)
      rw [k2] at hkd
      have HKD := hide hkd
      clear ho hq hb hkd hkl k0 k2
      go_wp2_with fail
      refine HKD.out.mono ?_
      rintro e w' ⟨rfl, rfl⟩
      go_wp2
      go_ret2
      refine ⟨⟨none, 0, by rw [HE.out]; rfl, ?_⟩, HB.out⟩
      rw [HE.out]
      intro k x hk; simp at hk
    have k1 : kindM S.m q = 1 := by omega
    have hat := rat4_any g S A c P (bs q) w1.drew ho.drew HL.out
    obtain ⟨k, x, ha, hx, hdt⟩ := file_node ho.eq k1
    have HE := hide ((HR4.out rfl k1).trans (by rw [hdt]))
    rw [k1] at hkd
    rw [ha] at hat
    have HKD := hide hkd
    have HAT := hide hat
    have hg := ho.heap
    have HDA := hide (ho.dat x (List.mem_of_getElem? hx))
    obtain ⟨n, hn⟩ : ∃ n, P.length = n := ⟨_, rfl⟩
    rw [hn] at hg
    have hc2 := cellOf hg (j := 2) (v := .slice A n c) rfl
    obtain ⟨gs, o, rfl, hgs, hc⟩ := ho.rg k x hx
    have hc3 : w1.cell? ⟨gs, o + k * 4 + 2, none⟩ = some (.slice x.2.A x.2.nd.data.length x.2.c) := hc 2 _ rfl
    have hkn : k < n := by rw [← hn]; exact (List.getElem?_eq_some_iff.1 hx).1
    have hki : (k : Int) < (n : Int) := by omega
    have hk0 : (0 : Int) ≤ (k : Int) := by omega
    obtain ⟨D, hD⟩ : ∃ b, x.2.nd.data = b := ⟨_, rfl⟩
    rw [hD] at hc3 HE HDA
    obtain ⟨m, hm⟩ : ∃ m, D.length = m := ⟨_, rfl⟩
    rw [hm] at hc3
    have HM := hide hm
    obtain ⟨B, hB⟩ : ∃ b, x.2.A = b := ⟨_, rfl⟩
    obtain ⟨d, hd⟩ : ∃ b, x.2.c = b := ⟨_, rfl⟩
    rw [hB] at hc3 HDA
    rw [hd] at hc3
    clear ho hq hb hat hkd hkl k0 k2 k1 hg hn ha hx hdt hc hD hm hB hd hgs
    go_wp2_with fail
    refine HKD.out.mono ?_
    rintro e w' ⟨rfl, rfl⟩
    go_wp2_with fail
    go_region_held3 (fun w' => w'.cell? ⟨g, 2, none⟩ = some (.slice (some ⟨gs, o, none⟩) n c) ∧ w'.cell? ⟨gs, o + k * 4 + 2, none⟩ = some (.slice B m d))
      (exact ⟨hc2, hc3⟩)
      ((go_at_call 105; refine HAT.out.mono ?_; rintro e w' ⟨rfl, rfl⟩))
    go_wp2
    go_ret2
    refine ⟨⟨B, d, ?_, ?_⟩, HB.out.drew⟩
    · rw [HE.out]; dsimp only; rw [HM.out]; rfl
    · rw [HE.out]; exact HDA.out
  · obtain ⟨t1, t2⟩ := ne0 c1
    have HE := hide (HR1.out c1)
    clear c1 ho hq hb
    go_wp2
    go_ret2
    refine ⟨⟨none, 0, by rw [HE.out]; rfl, ?_⟩, HB.out⟩
    rw [HE.out]
    intro k x hk; simp at hk
theorem listS_err {S : St} {p : T} (h : (absS S p).2 ≠ 0) : listS S p = ([], (absS S p).2) := by
  have : (foundS S p).2 = (absS S p).2 := by unfold foundS; simp [h]
  unfold listS; rw [this, if_pos h]
theorem listS_none {S : St} {p : T} (h : (absS S p).2 = 0) (hk : kindM S.m (absS S p).1 = 0) : listS S p = ([], 6) := by
  unfold listS; rw [found_none h hk]; rfl
theorem listS_file {S : St} {p : T} (h : (absS S p).2 = 0) (hk : kindM S.m (absS S p).1 = 1) : listS S p = ([], 11) := by
  unfold listS
  rw [found_there h (by omega)]
  have : (foundS S p).1 = (absS S p).1 := rfl
  rw [this, hk]; rfl
theorem listS_dir {S : St} {p : T} (h : (absS S p).2 = 0) (hk : kindM S.m (absS S p).1 = 2) : listS S p = (namesM S.m (absS S p).1, 0) := by
  unfold listS
  rw [found_there h (by omega)]
  have : (foundS S p).1 = (absS S p).1 := rfl
  rw [this, hk]; rfl
/-- the paths of a file system's nodes are short -/
theorem keys_short {S : St} (hS : WfS S) {P : List NV} (h : S.m = stripN P) : ∀ x ∈ P, ∃ t : T, x.1 = bs t ∧ t.length ≤ 1000 := by
  intro x hx
  obtain ⟨l, gl, _, e⟩ := hS.good (x.1, x.2.nd) (by rw [h]; exact List.mem_map.2 ⟨x, hx, rfl⟩)
  exact ⟨joinF l, e, by have := gl.len; omega⟩
theorem stripN_len (P : List NV) : (stripN P).length = P.length := by unfold stripN; rw [List.length_map]
theorem row_len {S : St} (hS : WfS S) {P : List NV} (h : S.m = stripN P) : P.length ≤ 10000 := by
  have h1 := hS.nodes
  have h2 := hS.n10
  rw [h, stripN_len] at h1
  omega
set_option maxRecDepth 100000 in
set_option maxHeartbeats 2000000 in
theorem rList_any (g : Nat) (S : St) (A : Option Addr) (c : Nat) (P : List NV) (p : T) (w : World) (h : RSO g S A c P w) (hS : WfS S) (hp : p.length ≤ 100000) :
    Calls Tryz.prog 85 #[.pointer (some ⟨g, 0, none⟩), .string (bs p)] w fun e w' => (∃ B d, e = .returned (.tuple #[.slice B (listS S p).1.length d, .int .i64 (listS S p).2]) ∧ SR w' B ((listS S p).1.map bs) ∧ (listS S p).1.length ≤ d) ∧ Below w.heap.size w w' := by
  have hl := row_len hS h.eq
  have HF := hide (rfind_abs g S A c P p w h (by omega) hp)
  have H := hide h
  have HR1 := hide (listS_err (S := S) (p := p))
  have HR2 := hide (listS_none (S := S) (p := p))
  have HR3 := hide (listS_file (S := S) (p := p))
  have HR4 := hide (listS_dir (S := S) (p := p))
  have hgd := fun h => absS_good (S := S) (p := p) h
  have HNM := hide (fun (q : T) (hq : (absS S p).2 = 0) (h2 : q = (absS S p).1) => show nmR q (keysN P) = namesM S.m q from by
    obtain ⟨l, gl, e, _⟩ := hgd hq
    rw [h2, e, ← keysN_eq h.eq]
    exact nmR_names hS gl)
  have HK := hide (keys_short hS h.eq)
  have HL := hide hl
  obtain ⟨r, hr⟩ : ∃ r, absS S p = r := ⟨_, rfl⟩
  obtain ⟨q0, e⟩ := r
  rw [hr] at HF HR1 HR2 HR3 HR4 HNM
  dsimp only at HF HR1 HR2 HR3 HR4 HNM
  obtain ⟨R, hR⟩ : ∃ R, listS S p = R := ⟨_, rfl⟩
  rw [hR] at HR1 HR2 HR3 HR4 ⊢
  clear hr hR h hl hp hgd
  go_enter Tryz.func85, Tryz.ntmps85
  go_wp2_with fail
  refine HF.out.mono ?_
  rintro e1 w1 ⟨q, rfl, hq, hql, hb⟩
  have HB := hide hb
  have HQ := hide hq
  have ho := H.out.below hb
  by_cases c1 : e = 0
  · subst c1
    have hq1 := hq rfl
    subst hq1
    have hkd := rkind_any g S A c P q w1 ho (by have := HL.out; omega)
    have hkl := kind_le S.m q
    by_cases k0 : kindM S.m q = 0
    · have HE := hide (HR2.out rfl k0)
      rw [k0] at hkd
      have HKD := hide hkd
      clear ho hq hb hkd hkl k0
      go_wp2_with fail
      refine HKD.out.mono ?_
      rintro e w' ⟨rfl, rfl⟩
      go_wp2
      go_ret2
      refine ⟨⟨none, 0, by rw [HE.out]; rfl, ?_, by rw [HE.out]; simp⟩, HB.out⟩
      rw [HE.out]
      intro k x hk; simp at hk
    by_cases k2 : kindM S.m q = 1
    · have HE := hide (HR3.out rfl k2)
      rw [k2] at hkd
      have HKD := hide hkd
      clear ho hq hb hkd hkl k0 k2
      go_wp2_with fail
      refine HKD.out.mono ?_
      rintro e w' ⟨rfl, rfl⟩
      go_wp2
      go_ret2
      refine ⟨⟨none, 0, by rw [HE.out]; rfl, ?_, by rw [HE.out]; simp⟩, HB.out⟩
      rw [HE.out]
      intro k x hk; simp at hk
    have k1 : kindM S.m q = 2 := by omega
    have HE := hide (HR4.out rfl k1)
    rw [k1] at hkd
    have HKD := hide hkd
    have hnm := rnames4_any g S A c P q w1 ho HL.out HK.out
    rw [HNM.out q rfl rfl] at hnm
    have HN := hide hnm
    obtain ⟨M, hM⟩ : ∃ M, namesM S.m q = M := ⟨_, rfl⟩
    rw [hM] at HE HN
    clear ho hq hb hkd hkl k0 k2 k1 hnm hM HNM
    go_wp2_with fail
    refine HKD.out.mono ?_
    rintro e w' ⟨rfl, rfl⟩
    go_wp2_with fail
    refine HN.out.mono ?_
    rintro e w2 ⟨⟨B, d, rfl, hsr, hd⟩, hb2⟩
    have HB2 := hide (below_up HB.out hb2 HB.out.size)
    have HSR := hide hsr
    have HD := hide hd
    clear hsr hb2 hd
    go_wp2
    go_ret2
    rw [HE.out]
    exact ⟨⟨B, d, rfl, HSR.out, HD.out⟩, HB2.out⟩
  · obtain ⟨t1, t2⟩ := ne0 c1
    have HE := hide (HR1.out c1)
    clear c1 ho hq hb
    go_wp2
    go_ret2
    refine ⟨⟨none, 0, by rw [HE.out]; rfl, ?_, by rw [HE.out]; simp⟩, HB.out⟩
    rw [HE.out]
    intro k x hk; simp at hk
end Go.Proofs.YtkajhdbcnmafcaaGreatDoor
