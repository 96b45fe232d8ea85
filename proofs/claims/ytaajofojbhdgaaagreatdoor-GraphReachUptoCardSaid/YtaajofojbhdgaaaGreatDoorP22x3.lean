/- Walks and plain facts that the claim uses. -/
import Derived.Test.YtaajofojbhdgaaaGreatDoorP22x2
import Derived.Deep.RegionHeld3
import Derived.Deep.LoopGhost
set_option maxRecDepth 100000
set_option maxHeartbeats 16000000
set_option linter.unusedSimpArgs false
set_option linter.unusedVariables false
namespace Go.Proofs.YtaajofojbhdgaaaGreatDoor
section
open Go.RowKit Go.Deep Go.Maps Ln Pth Vf
attribute [local go_sem] bt_eq
abbrev NV := ByteArray × En
def encE (x : NV) : List Value := [.string x.1, .bool x.2.nd.dir, .slice x.2.A x.2.nd.data.length x.2.c, .int .i64 x.2.nd.time]
theorem encE_len (x : NV) : (encE x).length = 4 := rfl
theorem encE_one (x : NV) : ∀ u ∈ encE x, u.oneCell' = true := by
 intro u hu
 simp only [encE, List.mem_cons, List.not_mem_nil, or_false] at hu
 rcases hu with rfl | rfl | rfl | rfl <;> rfl
structure ER (N : Nat → Prop) (w : World) (A : Option Addr) (P : List NV) : Prop where
 rg : RG encE 4 w A P
 blk : ∀ a, A = some a → P ≠ [] → N a.block
 dat : ∀ x ∈ P, RG encB 1 w x.2.A x.2.nd.data ∧ ∀ a, x.2.A = some a → x.2.nd.data ≠ [] → N a.block
 lt : ∀ x ∈ P, x.2.nd.data.length ≤ x.2.c
 top : ∀ a, A = some a → ∃ g o, a = ⟨g, o, none⟩
def RS (g : Nat) (S : St) : AsnN := fun T N w => T g ∧ ∃ (A : Option Addr) (c : Nat) (P : List NV),
 w.heap[g]? = some (.cells #[.int .i64 S.nodes, .int .i64 S.bytes, .slice A P.length c, .int .i64 S.clock] 103) ∧ P.length ≤ c ∧ ER N w A P ∧ S.m = stripN P
theorem RG.ofB {α : Type} {enc : α → List Value} {n : Nat} {w w' : World} {A : Option Addr} {L : List α} (h : RG enc n w A L) (hs : w.heap.size ≤ w'.heap.size) (hb : ∀ a, A = some a → L ≠ [] → w'.heap[a.block]? = w.heap[a.block]?) : RG enc n w' A L := fun k x hk => by
 obtain ⟨g, o, e, hg, h1⟩ := h k x hk
 have hbk := hb _ e (by rintro rfl; simp at hk)
 exact ⟨g, o, e, Nat.lt_of_lt_of_le hg hs, fun j v hj => (World.cell?_of_block (a := ⟨g, o + k * n + j, none⟩) hbk).trans (h1 j v hj)⟩
theorem ER.of {N N' : Nat → Prop} {w w' : World} {A : Option Addr} {P : List NV} (h : ER N w A P) (hs : w.heap.size ≤ w'.heap.size) (hb : ∀ k, N k → w'.heap[k]? = w.heap[k]?) (hn : ∀ k, N k → N' k) : ER N' w' A P :=
 ⟨h.rg.ofB hs (fun a e h1 => hb _ (h.blk a e h1)), fun a e h1 => hn _ (h.blk a e h1), fun x hx => ⟨(h.dat x hx).1.ofB hs (fun a e h1 => hb _ ((h.dat x hx).2 a e h1)), fun a e h1 => hn _ ((h.dat x hx).2 a e h1)⟩, h.lt, h.top⟩
theorem RS.fr (g : Nat) (S : St) : FrN (RS g S) := by
 rintro T N N' w w' ⟨h1, A, c, P, h2, h3, h4, h5⟩ hb hn hs
 exact ⟨h1, A, c, P, (hb g (.inl h1)).trans h2, h3, h4.of hs (fun k hk => hb k (.inr hk)) hn, h5⟩
structure RSO (g : Nat) (S : St) (A : Option Addr) (c : Nat) (P : List NV) (w : World) : Prop where
 heap : w.heap[g]? = some (.cells #[.int .i64 S.nodes, .int .i64 S.bytes, .slice A P.length c, .int .i64 S.clock] 103)
 cap : P.length ≤ c
 rg : RG encE 4 w A P
 dat : ∀ x ∈ P, RG encB 1 w x.2.A x.2.nd.data
 eq : S.m = stripN P
 top : ∀ a, A = some a → ∃ g o, a = ⟨g, o, none⟩
 neA : ∀ a, A = some a → P ≠ [] → a.block ≠ g
 neD : ∀ x ∈ P, ∀ a, x.2.A = some a → x.2.nd.data ≠ [] → a.block ≠ g
 lt : ∀ x ∈ P, x.2.nd.data.length ≤ x.2.c
theorem RSO.below {g : Nat} {S : St} {A : Option Addr} {c : Nat} {P : List NV} {w w' : World} (h : RSO g S A c P w) (hb : Below w.heap.size w w') : RSO g S A c P w' :=
 ⟨(hb.block g (Array.getElem?_eq_some_iff.1 h.heap).1).trans h.heap, h.cap, h.rg.below hb, fun x hx => (h.dat x hx).below hb, h.eq, h.top, h.neA, h.neD, h.lt⟩
theorem RS.o {g : Nat} {S : St} {w : World} (h : Hs (RS g S) w) : ∃ A c P, RSO g S A c P w := by
 obtain ⟨T, N, ⟨h1, A, c, P, h2, h3, h4, h5⟩, ok⟩ := h
 exact ⟨A, c, P, h2, h3, h4.rg, fun x hx => (h4.dat x hx).1, h5, h4.top, fun a e hn he => (ok.1 g h1).2 (he ▸ h4.blk a e hn), fun x hx a e hn he => (ok.1 g h1).2 (he ▸ (h4.dat x hx).2 a e hn), h4.lt⟩
def atN (P : List NV) (s : ByteArray) : Int := match P.findIdx? (fun x => decide (x.1 = s)) with
 | none => -1
 | some k => (k : Int)
theorem findIdx_take {α : Type} {p : α → Bool} : ∀ {P : List α} {k : Nat} {x : α}, P[k]? = some x → (∀ y ∈ P.take k, p y = false) → p x = true → P.findIdx? p = some k
 | [], k, x, h, _, _ => by simp at h
 | y :: P, 0, x, h, _, hp => by
   simp at h
   subst h
   simp [List.findIdx?_cons, hp]
 | y :: P, k + 1, x, h, hn, hp => by
   have h1 := hn y (by simp)
   have ih := findIdx_take (P := P) (k := k) (x := x) (by simpa using h) (fun z hz => hn z (by simp [hz])) hp
   simp [List.findIdx?_cons, h1, ih]
theorem findIdx_none {α : Type} {p : α → Bool} {P : List α} (h : ∀ y ∈ P, p y = false) : P.findIdx? p = none := by
 rw [List.findIdx?_eq_none_iff]
 exact h
theorem atN_at {P : List NV} {s : ByteArray} {k : Nat} {x : NV} (h : P[k]? = some x) (hn : ∀ y ∈ P.take k, y.1 ≠ s) (hx : x.1 = s) : atN P s = (k : Int) := by
 unfold atN
 rw [findIdx_take h (fun y hy => by simpa using hn y hy) (by simpa using hx)]
theorem atN_no {P : List NV} {s : ByteArray} (h : ∀ y ∈ P, y.1 ≠ s) : atN P s = -1 := by
 unfold atN
 rw [findIdx_none (fun y hy => by simpa using h y hy)]
theorem atN_cases (P : List NV) (s : ByteArray) : (atN P s = -1 ∧ getG (stripN P) s = none) ∨ ∃ (k : Nat) (x : NV), atN P s = (k : Int) ∧ P[k]? = some x ∧ x.1 = s ∧ getG (stripN P) s = some x.2.nd := by
 have hg : getG (stripN P) s = (P.find? fun x => decide (x.1 = s)).map fun x => x.2.nd := by
   rw [strip_get]
   unfold getG
   cases P.find? fun x => decide (x.1 = s) <;> rfl
 by_cases h : ∃ y ∈ P, y.1 = s
 · obtain ⟨y, hy, he⟩ := h
   cases hf : P.find? (fun x => decide (x.1 = s)) with
   | none => exact absurd (List.find?_eq_none.1 hf y hy) (by simp [he])
   | some z =>
     obtain ⟨hz, ys, zs, e, hn⟩ := List.find?_eq_some_iff_append.1 hf
     refine .inr ⟨ys.length, z, ?_, by rw [e]; simp, by simpa using hz, by rw [hg, hf]; rfl⟩
     exact atN_at (x := z) (by rw [e]; simp) (fun y hy => by rw [e, List.take_left'  rfl] at hy; simpa using hn y hy) (by simpa using hz)
 · have hn : ∀ y ∈ P, y.1 ≠ s := fun y hy e => h ⟨y, hy, e⟩
   refine .inl ⟨atN_no hn, ?_⟩
   rw [hg, List.find?_eq_none.2 (fun y hy => by simpa using hn y hy)]
   rfl
theorem rat4_any (g : Nat) (S : St) (A : Option Addr) (c : Nat) (P : List NV) (s : ByteArray) (w : World) (h : RSO g S A c P w) (hl : P.length ≤ 1000000) :
   Calls Tryz.prog 90 #[.pointer (some ⟨g, 0, none⟩), .string s] w fun e w' => e = .returned (.int .i64 (atN P s)) ∧ w = w' := by
 have HR := hide h.rg
 have hg := h.heap
 obtain ⟨n, hn⟩ : ∃ n, P.length = n := ⟨_, rfl⟩
 rw [hn] at hg hl
 have HN := hide hn
 have hc2 := cellOf hg (j := 2) (v := .slice A n c) rfl
 have hni : (n : Int) ≤ 1000000 := by omega
 clear h hg hn
 go_enter Tryz.func90, Tryz.ntmps90
 go_wp2
 go_loopw [5] (fun v5 wr => ∃ k : Nat, v5 = .int .i64 k ∧ k ≤ n ∧ Hid (∀ y ∈ P.take k, y.1 ≠ s) ∧ w = wr) (fun v5 _ => n - (intOf v5).toNat)
 case atStart => exact ⟨0, rfl, by omega, (by intro y hy; simp at hy), rfl⟩
 case round =>
   obtain ⟨k, rfl, hk, HNO, rfl⟩ := hrel
   by_cases hlt : k < n
   · obtain ⟨x, hx⟩ : ∃ x, P[k]? = some x := ⟨P[k]'(by have := HN.out; omega), gE _⟩
     obtain ⟨gs, o, rfl, hgs, hc⟩ := HR.out k x hx
     have hc0 : w.cell? ⟨gs, o + k * 4, none⟩ = some (.string x.1) := by have := hc 0 _ rfl; simpa using this
     have b1 : (k : Int) < (n : Int) := by omega
     have HX := hide hx
     obtain ⟨xs, hxs⟩ : ∃ t, x.1 = t := ⟨_, rfl⟩
     rw [hxs] at hc0
     have HXS := hide hxs
     clear hc hx hxs
     by_cases he : xs = s
     · have e1 : (xs.toList == s.toList) = true := by rw [he]; simp
       have HE := hide (atN_at HX.out HNO.out (HXS.out.trans he))
       clear he
       go_wp2
       go_ret
       rw [HE.out]
       exact ⟨rfl, rfl⟩
     · have e1 : (xs.toList == s.toList) = false := by
         rw [ByteArray.toList_eq, ByteArray.toList_eq]
         simp only [beq_eq_false_iff_ne]
         exact fun h => he (ByteArray.ext (Array.ext' h))
       have HN2 := hide (show ∀ y ∈ P.take (k + 1), y.1 ≠ s from fun y hy => by
         rw [List.take_add_one, HX.out] at hy
         rcases List.mem_append.1 hy with hy | hy
         · exact HNO.out y hy
         · simp at hy
           rw [hy, HXS.out]; exact he)
       clear he
       go_wp2
       go_roundw
       case rel => exact ⟨k + 1, by go_num, by omega, HN2.out, trivial⟩
       case measure => simp [intOf]; omega
   · obtain rfl : n = k := by omega
     have HE := hide (show atN P s = -1 from atN_no (by
       have := HNO.out
       rwa [List.take_of_length_le (by have := HN.out; omega)] at this))
     go_wp2
     go_ret
     rw [HE.out]
     exact ⟨rfl, rfl⟩
theorem way_take {m : Mp} {l : List T} (h : ∀ s ∈ l, 47 ∉ s) (hne : l ≠ []) : wayM m (joinF l) = wayL m (l.take 1) (l.drop 1) := by
 rw [way_join m h]
 cases l with
 | nil => exact absurd rfl hne
 | cons s r => rfl
theorem rkind_any (g : Nat) (S : St) (A : Option Addr) (c : Nat) (P : List NV) (q : T) (w : World) (h : RSO g S A c P w) (hl : P.length ≤ 1000000) :
   Calls Tryz.prog 89 #[.pointer (some ⟨g, 0, none⟩), .string (bs q)] w fun e w' => e = .returned (.int .i64 (kindM S.m q)) ∧ w = w' := by
 have HAT := hide (rat4_any g S A c P (bs q) w h hl)
 have hk : kindM S.m q = if q = [47] then 2 else match getG S.m (bs q) with
   | none => 0
   | some n => if n.dir = true then 2 else 1 := rfl
 have hcs := atN_cases P (bs q)
 rw [← h.eq] at hcs
 have hrg := h.rg
 have hg := h.heap
 obtain ⟨n, hn⟩ : ∃ n, P.length = n := ⟨_, rfl⟩
 rw [hn] at hg
 have hc2 := cellOf hg (j := 2) (v := .slice A n c) rfl
 by_cases hq : q = [47]
 · have e1 : ((bs q).toList == [47]) = true := by rw [bs_toList, hq]; rfl
   have HE := hide (hk.trans (if_pos hq))
   clear h hk hcs hrg hg hn hq
   go_enter Tryz.func89, Tryz.ntmps89
   go_wp2
   go_ret
   rw [HE.out]
   exact ⟨rfl, rfl⟩
 have e1 : ((bs q).toList == [47]) = false := by rw [bs_toList]; simpa using hq
 rw [if_neg hq] at hk
 rcases hcs with ⟨ha, hgt⟩ | ⟨k, x, ha, hx, hxq, hgt⟩
 · rw [hgt] at hk
   rw [ha] at HAT
   have HE := hide hk
   clear h hk hrg hg hn hq ha hgt
   go_enter Tryz.func89, Tryz.ntmps89
   go_wp2_with fail
   refine HAT.out.mono ?_
   rintro e w' ⟨rfl, rfl⟩
   go_wp2
   go_ret
   rw [HE.out]
   exact ⟨rfl, rfl⟩
 · rw [hgt] at hk
   dsimp only at hk
   rw [ha] at HAT
   obtain ⟨gs, o, rfl, hgs, hc⟩ := hrg k x hx
   have hc1 : w.cell? ⟨gs, o + k * 4 + 1, none⟩ = some (.bool x.2.nd.dir) := hc 1 _ rfl
   have hkn : k < n := by rw [← hn]; exact (List.getElem?_eq_some_iff.1 hx).1
   have hki : (k : Int) < (n : Int) := by omega
   have hk0 : (0 : Int) ≤ (k : Int) := by omega
   have d0 : decide ((k : Int) < 0) = false := by simp
   obtain ⟨b, hb⟩ : ∃ b, x.2.nd.dir = b := ⟨_, rfl⟩
   rw [hb] at hc1 hk
   clear h hrg hg hn hq ha hgt hx hxq hc hb hgs
   cases b with
   | true =>
     have HE := hide (hk.trans (if_pos rfl))
     clear hk
     go_enter Tryz.func89, Tryz.ntmps89
     go_wp2_with fail
     refine HAT.out.mono ?_
     rintro e w' ⟨rfl, rfl⟩
     go_wp2
     go_ret
     rw [HE.out]
     exact ⟨rfl, rfl⟩
   | false =>
     have HE := hide (hk.trans (if_neg (by simp)))
     clear hk
     go_enter Tryz.func89, Tryz.ntmps89
     go_wp2_with fail
     refine HAT.out.mono ?_
     rintro e w' ⟨rfl, rfl⟩
     go_wp2
     go_ret
     rw [HE.out]
     exact ⟨rfl, rfl⟩
theorem wayL_zero {m : Mp} {pre r : List T} {s : T} (h : kindM m (joinF pre) = 0) : wayL m pre (s :: r) = 6 := by rw [wayL, if_pos h]
theorem wayL_one {m : Mp} {pre r : List T} {s : T} (h : kindM m (joinF pre) = 1) : wayL m pre (s :: r) = 11 := by rw [wayL, if_neg (by omega), if_pos h]
theorem wayL_two {m : Mp} {pre r : List T} {s : T} (h0 : kindM m (joinF pre) ≠ 0) (h1 : kindM m (joinF pre) ≠ 1) : wayL m pre (s :: r) = wayL m (pre ++ [s]) r := by rw [wayL, if_neg h0, if_neg h1]
theorem rway_any (g : Nat) (S : St) (A : Option Addr) (c : Nat) (P : List NV) (l : List T) (w : World) (h : RSO g S A c P w) (hl : P.length ≤ 1000000) (hok : ∀ s ∈ l, okN s) (hlen : (joinF l).length ≤ 1000) :
   Calls Tryz.prog 100 #[.pointer (some ⟨g, 0, none⟩), .string (bs (joinF l))] w fun e w' => e = .returned (.int .i64 (wayM S.m (joinF l))) ∧ Below w.heap.size w w' := by
 have HPA := hide (rparts_any [47] (joinF l) w (by simp) (by omega))
 rw [show bs [47] = ⟨#[47]⟩ from rfl, parts_join hok] at HPA
 have HK := hide (fun (q : T) (W : World) (hb : Below w.heap.size w W) => rkind_any g S A c P q W (h.below hb) hl)
 have h47 : ∀ s ∈ l, 47 ∉ s := fun s hs => (hok s hs).2.2.2
 have hsl : (slashed l).length ≤ 1000 := by
   unfold joinF at hlen
   split at hlen
   · rename_i e; rw [e]; simp [slashed]
   · exact hlen
 have hll : l.length ≤ 1000 := by
   have : l.length ≤ (slashed l).length := by
     rw [slashed_len]
     clear hsl HPA hlen h47 hok
     induction l with
     | nil => simp
     | cons s l ih => simp only [List.length_cons, List.map_cons, List.sum_cons]; omega
   omega
 have HW := hide (show l ≠ [] → wayM S.m (joinF l) = wayL S.m (l.take 1) (l.drop 1) from way_take h47)
 have HW0 := hide (show l = [] → wayM S.m (joinF l) = 0 from by rintro rfl; rfl)
 have HSL := hide hsl
 obtain ⟨R, hR⟩ : ∃ R, wayM S.m (joinF l) = R := ⟨_, rfl⟩
 rw [hR] at HW HW0 ⊢
 obtain ⟨J, hJ⟩ : ∃ J, bs (joinF l) = J := ⟨_, rfl⟩
 rw [hJ] at HPA ⊢
 clear h hok h47 hlen hsl hR hJ
 go_enter Tryz.func100, Tryz.ntmps100
 go_wp2_with fail
 refine HPA.out.mono ?_
 rintro e w1 ⟨⟨v, rfl, ho⟩, hb1⟩
 obtain ⟨B, d, rfl, hd, hsr, _⟩ := OwnS.slice ho
 have HA := hide hsr
 have HB1 := hide hb1
 rw [List.length_map] at hd ⊢
 obtain ⟨n, hn⟩ : ∃ n, l.length = n := ⟨_, rfl⟩
 rw [hn] at hd hll ⊢
 have HN := hide hn
 have hni : (n : Int) ≤ 1000 := by omega
 clear ho hb1 hsr hn
 go_wp2_with fail
 go_loopw [6] (fun v6 wr => ∃ k : Nat, v6 = .int .i64 k ∧ 1 ≤ k ∧ Hid (k ≤ n → wayL S.m (l.take k) (l.drop k) = R) ∧ (k ≤ n ∨ (n = 0 ∧ k = 1)) ∧ w1 = wr) (fun v6 _ => n - (intOf v6).toNat)
 case atStart =>
   refine ⟨1, rfl, Nat.le_refl _, (fun h => (HW.out (by rintro rfl; have := HN.out; simp at this; omega)).symm), ?_, rfl⟩
   by_cases h : n = 0
   · exact .inr ⟨h, rfl⟩
   · exact .inl (by omega)
 case round =>
   obtain ⟨k, rfl, hk1, HWL, hkn, rfl⟩ := hrel
   by_cases hlt : k < n
   · have b1 : (k : Int) < (n : Int) := by omega
     have hkd : (k : Int) ≤ (d : Int) := by omega
     have hk0 : (0 : Int) ≤ (k : Int) := by omega
     have hwk : IntKind.i64.wrap (k : Int) = (k : Int) := IntWalk.i64_in _ (by omega)
     obtain ⟨x, hx⟩ : ∃ x, l[k]? = some x := ⟨l[k]'(by have := HN.out; omega), gE _⟩
     have hdr : l.drop k = x :: l.drop (k + 1) := by
       obtain ⟨h1, h2⟩ := List.getElem?_eq_some_iff.1 hx
       rw [List.drop_eq_getElem_cons h1, h2]
     have htk : l.take (k + 1) = l.take k ++ [x] := by rw [List.take_add_one, hx]; rfl
     have hwl := HWL.out (by omega)
     rw [hdr] at hwl
     have hwr := rwrite_any B d (l.take k) w1 (by rw [List.map_take]; exact HA.out.take k) (by have := slashed_take_len l k; have := HSL.out; omega) (by rw [List.length_take]; omega)
     rw [show (l.take k).length = k by rw [List.length_take, HN.out]; omega] at hwr
     have hkq := HK.out (joinF (l.take k)) w1 HB1.out
     obtain ⟨J2, hJ2⟩ : ∃ J, bs (joinF (l.take k)) = J := ⟨_, rfl⟩
     rw [hJ2] at hwr hkq
     obtain ⟨y, hy⟩ : ∃ y, kindM S.m (joinF (l.take k)) = y := ⟨_, rfl⟩
     rw [hy] at hkq
     have HWR := hide hwr
     have HKQ := hide hkq
     have HWX := hide hwl
     have HTK := hide htk
     have HY := hide hy
     clear hx hdr htk hwl hwr hkq hJ2 hy
     by_cases y0 : y = 0
     · subst y0
       have HE := hide (show R = 6 by rw [← HWX.out]; exact wayL_zero HY.out)
       go_wp2_with fail
       refine HWR.out.mono ?_
       rintro e w' ⟨rfl, rfl⟩
       go_wp2_with fail
       refine HKQ.out.mono ?_
       rintro e w' ⟨rfl, rfl⟩
       go_wp2
       go_ret
       rw [HE.out]
       exact ⟨rfl, HB1.out⟩
     by_cases y1 : y = 1
     · subst y1
       have HE := hide (show R = 11 by rw [← HWX.out]; exact wayL_one HY.out)
       clear y0
       go_wp2_with fail
       refine HWR.out.mono ?_
       rintro e w' ⟨rfl, rfl⟩
       go_wp2_with fail
       refine HKQ.out.mono ?_
       rintro e w' ⟨rfl, rfl⟩
       go_wp2
       go_ret
       rw [HE.out]
       exact ⟨rfl, HB1.out⟩
     have HNX := hide (show wayL S.m (l.take (k + 1)) (l.drop (k + 1)) = R by rw [← HWX.out, HTK.out]; exact (wayL_two (by rw [HY.out]; exact y0) (by rw [HY.out]; exact y1)).symm)
     have t0 : ((y : Int) == 0) = false := by simp; omega
     have t1 : ((y : Int) == 1) = false := by simp; omega
     clear y0 y1
     go_wp2_with fail
     refine HWR.out.mono ?_
     rintro e w' ⟨rfl, rfl⟩
     go_wp2_with fail
     refine HKQ.out.mono ?_
     rintro e w' ⟨rfl, rfl⟩
     go_wp2
     go_roundw
     case rel => exact ⟨k + 1, by go_num, by omega, (fun _ => HNX.out), .inl (by omega), trivial⟩
     case measure => simp [intOf]; omega
   · have b1 : ¬ (k : Int) < (n : Int) := by omega
     have HE := hide (show R = 0 by
       rcases hkn with h | ⟨h, _⟩
       · rw [← HWL.out h, List.drop_of_length_le (by have := HN.out; omega)]
         rfl
       · exact HW0.out (List.eq_nil_of_length_eq_zero (by have := HN.out; omega)))
     clear hkn
     go_wp2
     go_ret
     rw [HE.out]
     exact ⟨rfl, HB1.out⟩
end
section
open Go.RowKit Go.Deep Go.Maps Ln Pth Vf
attribute [local go_sem] bt_eq
def findR (S : St) (p : T) : T × Nat := if (absF [47] p).2 ≠ 0 then ([], (absF [47] p).2) else ((absF [47] p).1, wayM S.m (absF [47] p).1)
theorem rfind_any (g : Nat) (S : St) (A : Option Addr) (c : Nat) (P : List NV) (p : T) (w : World) (h : RSO g S A c P w) (hl : P.length ≤ 1000000) (hp : p.length ≤ 100000) :
   Calls Tryz.prog 88 #[.pointer (some ⟨g, 0, none⟩), .string (bs p)] w fun e w' => e = .returned (.tuple #[.string (bs (findR S p).1), .int .i64 (findR S p).2]) ∧ Below w.heap.size w w' := by
 have HA := hide (rabs_any [47] p w (by simp) (by omega))
 rw [show bs [47] = ⟨#[47]⟩ from rfl] at HA
 have hR : findR S p = if (absF [47] p).2 ≠ 0 then ([], (absF [47] p).2) else ((absF [47] p).1, wayM S.m (absF [47] p).1) := rfl
 have hW : (absF [47] p).2 = 0 → ∀ W, Below w.heap.size w W → Calls Tryz.prog 100 #[.pointer (some ⟨g, 0, none⟩), .string (bs (absF [47] p).1)] W fun e w' => e = .returned (.int .i64 (wayM S.m (absF [47] p).1)) ∧ Below W.heap.size W w' := fun h0 W hb => by
   rcases absF_cases [47] p with ⟨l, gd, e, _⟩ | ⟨_, e⟩
   · rw [e]
     exact rway_any g S A c P l W (h.below hb) hl gd.ok (by have := gd.len; omega)
   · exact absurd h0 (by omega)
 unfold AbsPost at HA
 obtain ⟨q, hq⟩ : ∃ q, (absF [47] p).1 = q := ⟨_, rfl⟩
 obtain ⟨e, he⟩ : ∃ q, (absF [47] p).2 = q := ⟨_, rfl⟩
 rw [hq, he] at HA hR hW
 have HR := hide hR
 have HW := hide hW
 clear hR hW h hq he
 by_cases c1 : e = 0
 · subst c1
   have HE := hide (HR.out.trans (if_neg (by simp)))
   have HW2 := hide (HW.out rfl)
   obtain ⟨y, hy⟩ : ∃ y, wayM S.m q = y := ⟨_, rfl⟩
   rw [hy] at HW2 HE
   clear hy HR HW
   go_enter Tryz.func88, Tryz.ntmps88
   go_wp2_with fail
   refine HA.out.mono ?_
   rintro e w1 ⟨rfl, hb⟩
   have HB := hide hb
   clear hb
   go_wp2_with fail
   refine (HW2.out w1 HB.out).mono ?_
   rintro e w2 ⟨rfl, hb⟩
   have HB2 := hide (below_up HB.out hb HB.out.size)
   clear hb
   go_wp2
   go_ret2
   rw [HE.out]
   exact ⟨rfl, HB2.out⟩
 · obtain ⟨t1, t2⟩ := ne0 c1
   have HE := hide (HR.out.trans (if_pos c1))
   clear c1
   go_enter Tryz.func88, Tryz.ntmps88
   go_wp2_with fail
   refine HA.out.mono ?_
   rintro e w1 ⟨rfl, hb⟩
   have HB := hide hb
   clear hb
   go_wp2
   go_ret2
   rw [HE.out]
   exact ⟨rfl, HB.out⟩
theorem findR_abs (S : St) (p : T) : (findR S p).2 = (absS S p).2 ∧ ((absS S p).2 = 0 → (findR S p).1 = (absS S p).1) := by
 unfold findR absS
 by_cases h : (absF [47] p).2 = 0
 · rw [if_neg (by simp [h]), if_neg (by simp [h])]
   by_cases h2 : wayM S.m (absF [47] p).1 = 0
   · rw [if_neg (by simp [h2])]
     exact ⟨h2, fun _ => rfl⟩
   · rw [if_pos h2]
     exact ⟨rfl, fun h => absurd h h2⟩
 · rw [if_pos h, if_pos h]
   exact ⟨rfl, fun _ => rfl⟩
theorem rfind_abs (g : Nat) (S : St) (A : Option Addr) (c : Nat) (P : List NV) (p : T) (w : World) (h : RSO g S A c P w) (hl : P.length ≤ 1000000) (hp : p.length ≤ 100000) :
   Calls Tryz.prog 88 #[.pointer (some ⟨g, 0, none⟩), .string (bs p)] w fun e w' => ∃ q, e = .returned (.tuple #[.string (bs q), .int .i64 (absS S p).2]) ∧ ((absS S p).2 = 0 → q = (absS S p).1) ∧ q.length ≤ 200 ∧ Below w.heap.size w w' := by
 refine (rfind_any g S A c P p w h hl hp).mono ?_
 rintro e w' ⟨rfl, hb⟩
 refine ⟨(findR S p).1, by rw [(findR_abs S p).1], (findR_abs S p).2, ?_, hb⟩
 unfold findR
 split
 · simp
 · rcases absF_cases [47] p with ⟨l, gd, e, _⟩ | ⟨e, _⟩
   · rw [e]; exact gd.len
   · rw [e]; simp
theorem rKind_any (g : Nat) (S : St) (A : Option Addr) (c : Nat) (P : List NV) (p : T) (w : World) (h : RSO g S A c P w) (hl : P.length ≤ 1000000) (hp : p.length ≤ 100000) :
   Calls Tryz.prog 115 #[.pointer (some ⟨g, 0, none⟩), .string (bs p)] w fun e w' => e = .returned (.int .i64 (kindS S p)) ∧ Below w.heap.size w w' := by
 have HA := hide (rabs_any [47] p w (by simp) (by omega))
 rw [show bs [47] = ⟨#[47]⟩ from rfl] at HA
 have hR : kindS S p = if (absF [47] p).2 ≠ 0 then 0 else if wayM S.m (absF [47] p).1 ≠ 0 then 0 else kindM S.m (absF [47] p).1 := by
   unfold kindS absS
   by_cases h : (absF [47] p).2 = 0
   · by_cases h2 : wayM S.m (absF [47] p).1 = 0
     · simp only [h, h2, ne_eq, not_true_eq_false, if_false]
     · simp only [h, h2, ne_eq, not_true_eq_false, not_false_eq_true, if_false, if_true]
   · simp only [h, ne_eq, not_true_eq_false, not_false_eq_true, if_false, if_true]
 have hW : (absF [47] p).2 = 0 → ∀ W, Below w.heap.size w W → Calls Tryz.prog 100 #[.pointer (some ⟨g, 0, none⟩), .string (bs (absF [47] p).1)] W fun e w' => e = .returned (.int .i64 (wayM S.m (absF [47] p).1)) ∧ Below W.heap.size W w' := fun h0 W hb => by
   rcases absF_cases [47] p with ⟨l, gd, e, _⟩ | ⟨_, e⟩
   · rw [e]
     exact rway_any g S A c P l W (h.below hb) hl gd.ok (by have := gd.len; omega)
   · exact absurd h0 (by omega)
 have HK := hide (fun (q : T) (W : World) (hb : Below w.heap.size w W) => rkind_any g S A c P q W (h.below hb) hl)
 unfold AbsPost at HA
 obtain ⟨q, hq⟩ : ∃ q, (absF [47] p).1 = q := ⟨_, rfl⟩
 obtain ⟨e, he⟩ : ∃ q, (absF [47] p).2 = q := ⟨_, rfl⟩
 rw [hq, he] at HA hR hW
 have HR := hide hR
 have HW := hide hW
 clear hR hW h hq he
 by_cases c1 : e = 0
 · subst c1
   have hE := HR.out.trans (if_neg (by simp))
   have HW2 := hide (HW.out rfl)
   have HKQ := hide (HK.out q)
   obtain ⟨y, hy⟩ : ∃ y, wayM S.m q = y := ⟨_, rfl⟩
   rw [hy] at HW2 hE
   obtain ⟨z, hz⟩ : ∃ y, kindM S.m q = y := ⟨_, rfl⟩
   rw [hz] at HKQ hE
   have HE := hide hE
   clear hy HR HW hz hE HK
   by_cases y0 : y = 0
   · subst y0
     have HE2 := hide (HE.out.trans (if_neg (by simp)))
     go_enter Tryz.func115, Tryz.ntmps115
     go_wp2_with fail
     refine HA.out.mono ?_
     rintro e w1 ⟨rfl, hb⟩
     have HB := hide hb
     clear hb
     go_wp2_with fail
     refine (HW2.out w1 HB.out).mono ?_
     rintro e w2 ⟨rfl, hb⟩
     have HB2 := hide (below_up HB.out hb HB.out.size)
     clear hb
     go_wp2_with fail
     refine (HKQ.out w2 HB2.out).mono ?_
     rintro e w' ⟨rfl, rfl⟩
     go_wp2
     go_ret
     rw [HE2.out]
     exact ⟨rfl, HB2.out⟩
   · obtain ⟨t1, t2⟩ := ne0 y0
     have HE2 := hide (HE.out.trans (if_pos y0))
     clear y0
     go_enter Tryz.func115, Tryz.ntmps115
     go_wp2_with fail
     refine HA.out.mono ?_
     rintro e w1 ⟨rfl, hb⟩
     have HB := hide hb
     clear hb
     go_wp2_with fail
     refine (HW2.out w1 HB.out).mono ?_
     rintro e w2 ⟨rfl, hb⟩
     have HB2 := hide (below_up HB.out hb HB.out.size)
     clear hb
     go_wp2
     go_ret
     rw [HE2.out]
     exact ⟨rfl, HB2.out⟩
 · obtain ⟨t1, t2⟩ := ne0 c1
   have HE := hide (HR.out.trans (if_pos c1))
   clear c1
   go_enter Tryz.func115, Tryz.ntmps115
   go_wp2_with fail
   refine HA.out.mono ?_
   rintro e w1 ⟨rfl, hb⟩
   have HB := hide hb
   clear hb
   go_wp2
   go_ret
   rw [HE.out]
   exact ⟨rfl, HB.out⟩
def sizeR (P : List NV) : Nat := (P.map fun x => x.2.nd.data.length).sum
theorem sizeR_eq {S : St} {P : List NV} (h : S.m = stripN P) (hS : WfS S) : sizeR P = S.used := by
 rw [hS.sum, h]
 unfold stripN sizeR
 rw [List.map_map]
 rfl
theorem sizeR_take {P : List NV} {k : Nat} {x : NV} (h : P[k]? = some x) : sizeR (P.take (k + 1)) = sizeR (P.take k) + x.2.nd.data.length := by
 unfold sizeR
 rw [List.take_add_one, h]
 simp
theorem sizeR_le (P : List NV) (k : Nat) : sizeR (P.take k) ≤ sizeR P := by
 unfold sizeR
 conv => rhs; rw [← List.take_append_drop k P, List.map_append, List.sum_append]
 omega
theorem rsize_any (g : Nat) (S : St) (A : Option Addr) (c : Nat) (P : List NV) (w : World) (h : RSO g S A c P w) (hl : P.length ≤ 1000000) (hs : sizeR P ≤ 100000000) :
   Calls Tryz.prog 91 #[.pointer (some ⟨g, 0, none⟩)] w fun e w' => e = .returned (.int .i64 (sizeR P)) ∧ w = w' := by
 have HR := hide h.rg
 have hg := h.heap
 obtain ⟨n, hn⟩ : ∃ n, P.length = n := ⟨_, rfl⟩
 rw [hn] at hg hl
 have HN := hide hn
 have HS := hide hs
 have hc2 := cellOf hg (j := 2) (v := .slice A n c) rfl
 have hni : (n : Int) ≤ 1000000 := by omega
 clear h hg hn hs
 go_enter Tryz.func91, Tryz.ntmps91
 go_wp2
 go_loopw [3, 4] (fun v3 v4 wr => ∃ k : Nat, v4 = .int .i64 k ∧ k ≤ n ∧ v3 = .int .i64 (sizeR (P.take k)) ∧ w = wr) (fun _ v4 _ => n - (intOf v4).toNat)
 case atStart => exact ⟨0, rfl, by omega, by simp [sizeR], rfl⟩
 case round =>
   obtain ⟨k, rfl, hk, rfl, rfl⟩ := hrel
   by_cases hlt : k < n
   · obtain ⟨x, hx⟩ : ∃ x, P[k]? = some x := ⟨P[k]'(by have := HN.out; omega), gE _⟩
     obtain ⟨gs, o, rfl, hgs, hc⟩ := HR.out k x hx
     have hc3 : w.cell? ⟨gs, o + k * 4 + 2, none⟩ = some (.slice x.2.A x.2.nd.data.length x.2.c) := hc 2 _ rfl
     have b1 : (k : Int) < (n : Int) := by omega
     have htk := sizeR_take hx
     have hle := sizeR_le P (k + 1)
     have hs := HS.out
     obtain ⟨m, hm⟩ : ∃ m, x.2.nd.data.length = m := ⟨_, rfl⟩
     obtain ⟨u, hu⟩ : ∃ m, sizeR (P.take k) = m := ⟨_, rfl⟩
     rw [hm] at hc3 htk
     rw [hu] at htk ⊢
     have HTK := hide htk
     have hui : (u : Int) + (m : Int) ≤ 100000000 := by omega
     have hu0 : (u : Int) ≤ 100000000 := by omega
     clear hc hx htk hle hs hm hu
     go_wp2
     go_roundw
     case rel => exact ⟨k + 1, by go_num, by omega, by rw [HTK.out]; go_num, trivial⟩
     case measure => simp [intOf]; omega
   · obtain rfl : n = k := by omega
     have htk : P.take n = P := List.take_of_length_le (by have := HN.out; omega)
     rw [htk]
     clear htk
     go_wp2
     go_ret
     exact ⟨rfl, rfl⟩
end
section
open Go.RowKit Go.Deep Go.Maps Ln Pth Vf
attribute [local go_sem] bt_eq
def nmF (q : T) (acc : List T) (x : T) : List T := if dirF x = q then putT (baseF x) acc else acc
def nmR (q : T) (K : List T) : List T := K.foldl (nmF q) []
theorem nmR_rise (q : T) : ∀ (K : List T) (acc : List T), acc.Pairwise (· < ·) → (K.foldl (nmF q) acc).Pairwise (· < ·)
 | [], acc, h => h
 | x :: K, acc, h => by
   rw [List.foldl_cons]
   refine nmR_rise q K _ ?_
   unfold nmF
   split
   · exact putT_rise _ h
   · exact h
theorem nmR_mem (q s : T) : ∀ (K : List T) (acc : List T), s ∈ K.foldl (nmF q) acc ↔ s ∈ acc ∨ ∃ x ∈ K, dirF x = q ∧ baseF x = s
 | [], acc => by simp
 | x :: K, acc => by
   rw [List.foldl_cons, nmR_mem q s K]
   unfold nmF
   split
   · rename_i h
     rw [mem_putT]
     constructor
     · rintro ((rfl | h1) | ⟨y, hy, h1⟩)
       · exact .inr ⟨x, by simp, h, rfl⟩
       · exact .inl h1
       · exact .inr ⟨y, by simp [hy], h1⟩
     · rintro (h1 | ⟨y, hy, h1, h2⟩)
       · exact .inl (.inr h1)
       · rcases List.mem_cons.1 hy with rfl | hy
         · exact .inl (.inl h2.symm)
         · exact .inr ⟨y, hy, h1, h2⟩
   · rename_i h
     constructor
     · rintro (h1 | ⟨y, hy, h1⟩)
       · exact .inl h1
       · exact .inr ⟨y, by simp [hy], h1⟩
     · rintro (h1 | ⟨y, hy, h1, h2⟩)
       · exact .inl h1
       · rcases List.mem_cons.1 hy with rfl | hy
         · exact absurd h1 h
         · exact .inr ⟨y, hy, h1, h2⟩
theorem dir_join {l : List T} (h : ∀ s ∈ l, okN s) : dirF (joinF l) = joinF l.dropLast := by
 unfold dirF; rw [parts_join h]
theorem base_join {l : List T} (h : ∀ s ∈ l, okN s) : baseF (joinF l) = l.getLast?.getD [] := by
 unfold baseF; rw [parts_join h]
theorem slashed_last : ∀ {l : List T}, (∀ s ∈ l, okN s) → l ≠ [] → (slashed l).getLast? ≠ some 47 := by
 intro l h hne
 obtain ⟨a, s, rfl⟩ : ∃ a s, l = a ++ [s] := ⟨l.dropLast, l.getLast hne, (List.dropLast_concat_getLast hne).symm⟩
 obtain ⟨h1, _, _, h4⟩ := h s (by simp)
 rw [slashed_app]
 have e : slashed [s] = 47 :: s := by simp [slashed]
 rw [e, List.getLast?_append, List.getLast?_cons, List.getLast?_eq_some_getLast h1]
 simp
 intro e2
 exact h4 (e2 ▸ List.getLast_mem h1)
theorem front_join {l : List T} (h : ∀ s ∈ l, okN s) (s : T) : frontF (joinF l) ++ s = joinF (l ++ [s]) := by
 have e : slashed [s] = 47 :: s := by simp [slashed]
 have e2 : joinF (l ++ [s]) = slashed (l ++ [s]) := by unfold joinF; rw [if_neg (by simp)]
 rw [e2, slashed_app, e]
 by_cases hl : l = []
 · subst hl; rfl
 · have e3 : joinF l = slashed l := by unfold joinF; rw [if_neg hl]
   unfold frontF
   rw [e3, if_neg (slashed_last h hl)]
   simp
theorem last_slash : ∀ {a b s t : T}, 47 ∉ s → 47 ∉ t → a ++ 47 :: s = b ++ 47 :: t → a = b ∧ s = t := by
 intro a b s t hs ht h
 have hr := congrArg List.reverse h
 simp only [List.reverse_append, List.reverse_cons, List.append_assoc, List.singleton_append] at hr
 have key : ∀ (u v x y : T), 47 ∉ u → 47 ∉ v → u ++ 47 :: x = v ++ 47 :: y → u = v ∧ x = y := by
   intro u
   induction u with
   | nil =>
     intro v x y _ hv h
     cases v with
     | nil => simpa using h
     | cons c v => simp at h; exact absurd (by simp [h.1]) hv
   | cons c u ih =>
     intro v x y hu hv h
     cases v with
     | nil => simp at h; exact absurd (by simp [h.1]) hu
     | cons d v =>
       simp only [List.cons_append, List.cons.injEq] at h
       obtain ⟨h1, h2⟩ := ih v x y (fun e => hu (by simp [e])) (fun e => hv (by simp [e])) h.2
       exact ⟨by rw [h.1, h1], h2⟩
 obtain ⟨h1, h2⟩ := key _ _ _ _ (by simpa using hs) (by simpa using ht) hr
 exact ⟨List.reverse_inj.1 h2, List.reverse_inj.1 h1⟩
theorem join_front_eq {l l2 : List T} {s : T} (h : ∀ s ∈ l, okN s) (h2 : ∀ s ∈ l2, okN s) (hne : l2 ≠ []) (hs : 47 ∉ s) (he : joinF l2 = joinF (l ++ [s])) : l2 = l ++ [s] := by
 obtain ⟨a, z, rfl⟩ : ∃ a s, l2 = a ++ [s] := ⟨l2.dropLast, l2.getLast hne, (List.dropLast_concat_getLast hne).symm⟩
 have e : ∀ (l : List T) (s : T), joinF (l ++ [s]) = slashed l ++ 47 :: s := by
   intro l s
   unfold joinF
   rw [if_neg (by simp), slashed_app]
   simp [slashed]
 rw [e, e] at he
 obtain ⟨h1, h3⟩ := last_slash (h2 z (by simp)).2.2.2 hs he
 subst h3
 have : a = l := by
   refine joinF_inj (fun s hs => h2 s (by simp [hs])) h ?_
   unfold joinF
   by_cases ha : a = []
   · subst ha
     by_cases hl : l = []
     · subst hl; rfl
     · exact absurd h1.symm (slashed_ne hl)
   · by_cases hl : l = []
     · subst hl; exact absurd h1 (slashed_ne ha)
     · rw [if_neg ha, if_neg hl, h1]
 rw [this]
theorem nmR_names {S : St} (hS : WfS S) {l : List T} (hl : GoodP l) : nmR (joinF l) (S.m.map fun x => x.1.data.toList) = namesM S.m (joinF l) := by
 refine rise_ext (nmR_rise _ _ _ List.Pairwise.nil) (names_rise hS.rise _) (fun s => ?_)
 unfold nmR
 rw [nmR_mem, mem_names]
 constructor
 · rintro (h | ⟨x, hx, h1, h2⟩)
   · simp at h
   · obtain ⟨y, hy, rfl⟩ := List.mem_map.1 hx
     obtain ⟨l2, g2, n2, e2⟩ := hS.good y hy
     rw [e2, bs_list] at h1 h2
     rw [dir_join g2.ok] at h1
     rw [base_join g2.ok] at h2
     have h3 := joinF_inj (fun s hs => g2.ok s ((List.dropLast_sublist l2).subset hs)) hl.ok h1
     rw [List.getLast?_eq_some_getLast n2] at h2
     simp at h2
     have e3 : l2 = l ++ [s] := by rw [← h3, ← h2, List.dropLast_concat_getLast n2]
     refine ⟨(g2.ok s (by rw [e3]; simp)).2.2.2, y.2, ?_⟩
     rw [front_join hl.ok, ← e3, ← e2]
     exact hy
 · rintro ⟨h1, n, h2⟩
   refine .inr ⟨_, List.mem_map.2 ⟨_, h2, rfl⟩, ?_⟩
   obtain ⟨l2, g2, n2, e2⟩ := hS.good _ h2
   dsimp only at e2 ⊢
   rw [bs_list]
   rw [front_join hl.ok] at e2 ⊢
   have e3 := join_front_eq hl.ok g2.ok n2 h1 (bs_inj e2).symm
   rw [← e3, dir_join g2.ok, base_join g2.ok, e3]
   simp
theorem putS_bsT (s : T) : ∀ L : List T, putS (bs s) (L.map bs) = (putT s L).map bs
 | [] => rfl
 | y :: L => by
   have h1 : (sLt (bs y) (bs s) = true) ↔ y < s := sLt_iff _ _
   have h2 : bs y = bs s ↔ y = s := ⟨bs_inj, fun h => by rw [h]⟩
   show (if sLt (bs y) (bs s) then bs y :: putS (bs s) (L.map bs) else if bs y = bs s then bs y :: L.map bs else bs s :: bs y :: L.map bs) = _
   rw [putS_bsT s L, putT]
   by_cases c1 : y < s
   · rw [if_pos (h1.2 c1), if_pos c1]; rfl
   · rw [if_neg (fun h => c1 (h1.1 h)), if_neg c1]
     by_cases c2 : y = s
     · rw [if_pos (h2.2 c2), if_pos c2]; rfl
     · rw [if_neg (fun h => c2 (h2.1 h)), if_neg c2]; rfl
theorem putT_lenR (s : T) : ∀ L : List T, (putT s L).length ≤ L.length + 1
 | [] => by simp [putT]
 | y :: L => by
   have := putT_lenR s L
   rw [putT]
   split
   · simp; omega
   · split <;> simp
theorem nmR_snoc (q x : T) (K : List T) : nmR q (K ++ [x]) = nmF q (nmR q K) x := by unfold nmR; rw [List.foldl_append]; rfl
def keysN (P : List NV) : List T := P.map fun x => x.1.data.toList
theorem keysN_eq {S : St} {P : List NV} (h : S.m = stripN P) : (S.m.map fun x => x.1.data.toList) = keysN P := by
 rw [h]; unfold stripN keysN; rw [List.map_map]; rfl
theorem rnames4_any (g : Nat) (S : St) (A : Option Addr) (c : Nat) (P : List NV) (q : T) (w : World) (h : RSO g S A c P w) (hl : P.length ≤ 10000) (hk : ∀ x ∈ P, ∃ t : T, x.1 = bs t ∧ t.length ≤ 1000) :
   Calls Tryz.prog 95 #[.pointer (some ⟨g, 0, none⟩), .string (bs q)] w fun e w' => (∃ A' c', e = .returned (.slice A' (nmR q (keysN P)).length c') ∧ SR w' A' ((nmR q (keysN P)).map bs) ∧ (nmR q (keysN P)).length ≤ c') ∧ Below w.heap.size w w' := by
 have H := hide h
 have HK := hide hk
 have HN := hide (rfl : P.length = P.length)
 obtain ⟨n, hn⟩ : ∃ n, P.length = n := ⟨_, rfl⟩
 have HNN := hide hn
 have hln : n ≤ 10000 := by omega
 clear h hk hl hn HN
 go_enter Tryz.func95, Tryz.ntmps95
 go_wp2
 go_loopw [5, 6] (fun v5 v6 wr => ∃ (k : Nat) (A' : Option Addr) (c' m : Nat), v6 = .int .i64 k ∧ k ≤ n ∧ v5 = .slice A' m c' ∧ Hid (m = (nmR q (keysN (P.take k))).length) ∧ m ≤ k ∧ m ≤ c' ∧ Hid (SR wr A' ((nmR q (keysN (P.take k))).map bs)) ∧ Hid (Below w.heap.size w wr)) (fun _ v6 _ => n - (intOf v6).toNat)
 case atStart =>
   refine ⟨0, none, 0, 0, rfl, by omega, rfl, ?_, by omega, by omega, ?_, Below.refl _ _⟩
   · show (0 : Nat) = _; simp [keysN, nmR]
   · intro k s hks; simp [keysN, nmR] at hks
 case round =>
   obtain ⟨k, A', c', m, rfl, hk, rfl, HM, hmk, hmc, HSR, HB⟩ := hrel
   have ho := H.out.below HB.out
   have hg := ho.heap
   have hrg := ho.rg
   rw [HNN.out] at hg
   have hc2 := cellOf hg (j := 2) (v := .slice A n c) rfl
   have hgb : g < wr.heap.size := (Array.getElem?_eq_some_iff.1 hg).1
   by_cases hlt : k < n
   · obtain ⟨x, hx⟩ : ∃ x, P[k]? = some x := ⟨P[k]'(by have := HNN.out; omega), gE _⟩
     obtain ⟨gs, o, rfl, hgs, hc⟩ := hrg k x hx
     have hc0 : wr.cell? ⟨gs, o + k * 4, none⟩ = some (.string x.1) := by have := hc 0 _ rfl; simpa using this
     obtain ⟨t, hxt, htl⟩ := HK.out x (List.mem_of_getElem? hx)
     have hkt : keysN (P.take (k + 1)) = keysN (P.take k) ++ [t] := by
       unfold keysN
       rw [List.take_add_one, hx, List.map_append]
       simp [hxt, bs_list]
     rw [hxt] at hc0
     have hnm := nmR_snoc q t (keysN (P.take k))
     rw [← hkt] at hnm
     obtain ⟨Q, hQ⟩ : ∃ Q, nmR q (keysN (P.take k)) = Q := ⟨_, rfl⟩
     rw [hQ] at HM HSR hnm
     have HNM := hide hnm
     have b1 : (k : Int) < (n : Int) := by omega
     have HD := hide (fun W => rdir_any t W (by omega))
     have HBA := hide (fun W => rbase_any t W (by omega))
     have hg0 : gs < wr.heap.size := hgs
     have hm := HM.out
     have hps := fun (W : World) (hb : Below wr.heap.size wr W) => putstr_any A' c' (Q.map bs) (bs (baseF t)) W (HSR.out.below hb) (by rw [List.length_map]; omega) (by rw [List.length_map]; omega)
     rw [putS_bsT] at hps
     simp only [List.length_map, ← hm] at hps
     have HPS := hide hps
     clear hm hps hnm hQ hkt htl hxt hc hx hrg ho hg hgs
     by_cases hd : dirF t = q
     · have e1 : ((bs (dirF t)).toList == (bs q).toList) = true := by rw [hd]; simp
       have HE := hide (HNM.out.trans (if_pos hd))
       clear hd
       go_wp2_with fail
       refine (HD.out _).mono ?_
       rintro e w1 ⟨rfl, hb1⟩
       have hc2' := (hb1.cell (p := ⟨g, 2, none⟩) hgb).trans hc2
       have hc0' := (hb1.cell (p := ⟨gs, o + k * 4, none⟩) hg0).trans hc0
       have HB1 := hide hb1
       clear hb1
       go_wp2_with fail
       refine (HBA.out _).mono ?_
       rintro e w2 ⟨rfl, hb2⟩
       have HB2 := hide (below_up HB1.out hb2 HB1.out.size)
       clear hb2
       go_wp2_with fail
       refine (HPS.out w2 HB2.out).mono ?_
       rintro e w3 ⟨⟨A2, c2, rfl, hsr, hc3⟩, hb3⟩
       have HSR2 := hide hsr
       have HB3 := hide (below_up HB.out (below_up HB2.out hb3 HB2.out.size) HB.out.size)
       have HX := hide (And.intro hsr hc3)
       clear hsr hb3 hc3
       go_wp2
       go_roundw
       case rel =>
         have hpl := putT_lenR (baseF t) Q
         have hm := HM.out
         refine ⟨k + 1, A2, c2, (putT (baseF t) Q).length, by go_num, by omega, rfl, ?_, by omega, HX.out.2, ?_, HB3.out⟩
         · show _ = _; rw [HE.out]
         · show SR _ _ _; rw [HE.out]; exact HX.out.1
       case measure => simp [intOf]; omega
     · have e1 : ((bs (dirF t)).toList == (bs q).toList) = false := by rw [bs_toList, bs_toList]; simpa using hd
       have HE := hide (HNM.out.trans (if_neg hd))
       clear hd
       go_wp2_with fail
       refine (HD.out _).mono ?_
       rintro e w1 ⟨rfl, hb1⟩
       have HB1 := hide hb1
       clear hb1
       go_wp2
       go_roundw
       case rel =>
         refine ⟨k + 1, A', c', m, by go_num, by omega, rfl, ?_, by omega, by omega, ?_, below_up HB.out HB1.out HB.out.size⟩
         · show _ = _; rw [HE.out]; exact HM.out
         · show SR _ _ _; rw [HE.out]; exact HSR.out.below HB1.out
       case measure => simp [intOf]; omega
   · obtain rfl : n = k := by omega
     have htk : P.take n = P := List.take_of_length_le (by have := HNN.out; omega)
     rw [htk] at HM HSR
     have hm := HM.out
     have HMC := hide hmc
     clear htk ho hg hrg
     go_wp2
     go_ret
     exact ⟨⟨A', c', by rw [← hm]; rfl, HSR.out, by rw [← hm]; exact HMC.out⟩, HB.out⟩
end
section
open Go.RowKit Go.Deep Go.Maps Ln Pth Vf
attribute [local go_sem] bt_eq
theorem file_node {S : St} {P : List NV} (h : S.m = stripN P) {q : T} (hk : kindM S.m q = 1) : ∃ (k : Nat) (x : NV), atN P (bs q) = (k : Int) ∧ P[k]? = some x ∧ dataM S.m q = x.2.nd.data := by
 have hr : q ≠ [47] := by rintro rfl; simp [kindM] at hk
 rcases atN_cases P (bs q) with ⟨_, hg⟩ | ⟨k, x, ha, hx, _, hg⟩
 · rw [← h] at hg
   unfold kindM at hk
   rw [if_neg hr, hg] at hk
   exact absurd hk (by simp)
 · refine ⟨k, x, ha, hx, ?_⟩
   unfold dataM
   rw [h, hg]
theorem RSO.drew {g : Nat} {S : St} {A : Option Addr} {c : Nat} {P : List NV} {w : World} (h : RSO g S A c P w) : RSO g S A c P w.drew := ⟨h.heap, h.cap, h.rg, h.dat, h.eq, h.top, h.neA, h.neD, h.lt⟩
theorem keys_short {S : St} (hS : WfS S) {P : List NV} (h : S.m = stripN P) : ∀ x ∈ P, ∃ t : T, x.1 = bs t ∧ t.length ≤ 1000 := by
 intro x hx
 obtain ⟨l, gl, _, e⟩ := hS.good (x.1, x.2.nd) (by rw [h]; exact List.mem_map.2 ⟨x, hx, rfl⟩)
 exact ⟨joinF l, e, by have := gl.len; omega⟩
theorem stripN_len (P : List NV) : (stripN P).length = P.length := by unfold stripN; rw [List.length_map]
theorem row_len {S : St} (hS : WfS S) {P : List NV} (h : S.m = stripN P) : P.length ≤ 10000 := by
 have h1 := hS.nodes
 have h2 := hS.n10
 rw [h, stripN_len] at h1
 omega
end
section
open Go.RowKit Go.Deep
end
section
open Go.RowKit Go.Deep
attribute [local go_sem] bt_eq
end
section
open Go.RowKit Go.Deep Ln
attribute [local go_sem] bt_eq
theorem cont_nil (s : ByteArray) : Lib.containsS [] s = false := Bool.eq_false_iff.2 fun h => by simpa using (Lib.containsS_iff _ _).1 h
theorem toL_ne {x s : ByteArray} (h : ¬ x = s) : (x.toList == s.toList) = false := by
 rw [ByteArray.toList_eq, ByteArray.toList_eq, beq_eq_false_iff_ne]
 intro e
 exact h (ByteArray.ext (Array.toList_inj.1 e))
theorem cont_take {L : List ByteArray} {k : Nat} {x : ByteArray} (h : L[k]? = some x) (s : ByteArray) : Lib.containsS (L.take (k + 1)) s = (Lib.containsS (L.take k) s || decide (x = s)) := by
 rw [List.take_add_one, h, Bool.eq_iff_iff, Bool.or_eq_true, Lib.containsS_iff, Lib.containsS_iff, decide_eq_true_eq]
 simp [eq_comm]
theorem rhas_any (A : Option Addr) (c : Nat) (L : List ByteArray) (s : ByteArray) (w : World) (hA : SR w A L) (hl : L.length ≤ 50000000) :
   Calls Tryz.prog 32 #[.slice A L.length c, .string s] w fun e w' => e = .returned (.bool (Lib.containsS L s)) ∧ w = w' := by
 have HA := hide hA
 obtain ⟨n, hn⟩ : ∃ n, L.length = n := ⟨_, rfl⟩
 have HN := hide hn
 have HT := hide (fun k x (h : L[k]? = some x) => cont_take h s)
 have HF := hide (show Lib.containsS (L.take n) s = Lib.containsS L s by rw [List.take_of_length_le (by omega)])
 have hn1 : (n : Int) ≤ 100000000 := by omega
 rw [hn]
 clear hn hA
 go_enter Tryz.func32, Tryz.ntmps32
 go_wp2
 go_loop [5] (fun v5 => ∃ k : Nat, v5 = .int .i64 k ∧ k ≤ n ∧ Hid (Lib.containsS (L.take k) s = false)) (fun v5 => n - (intOf v5).toNat)
 case atStart => exact ⟨0, rfl, by omega, hide (cont_nil s)⟩
 case round =>
   obtain ⟨k, rfl, hk, HR⟩ := hrel
   by_cases hlt : k < n
   · obtain ⟨x, hx⟩ : ∃ x, L[k]? = some x := ⟨L[k]'(by have := HN.out; omega), gE _⟩
     obtain ⟨g, o, rfl, hg, hc⟩ := HA.out k x hx
     have b1 : (k : Int) < (n : Int) := by omega
     have ht := HT.out k x hx
     by_cases he : x = s
     · subst he
       have HE := hide (show Lib.containsS L x = true from (Lib.containsS_iff _ _).2 (List.mem_of_getElem? hx))
       clear hx ht
       go_wp2
       go_ret
       rw [HE.out]
       exact ⟨rfl, rfl⟩
     · have hne := toL_ne he
       have HE := hide (show Lib.containsS (L.take (k + 1)) s = false by rw [ht, HR.out, decide_eq_false he]; rfl)
       clear hx ht he
       go_wp2
       go_round
       case rel => exact ⟨k + 1, by go_num, by omega, HE⟩
       case measure => simp [intOf]; omega
   · obtain rfl : k = n := by omega
     have HE := hide (show Lib.containsS L s = false by rw [← HF.out]; exact HR.out)
     go_wp2
     go_ret
     rw [HE.out]
     exact ⟨rfl, rfl⟩
theorem isP_ix (x : ByteArray) : isP x = decide (0 ≤ Lib.indexByte x.data.toList 37) := by
 unfold isP
 rw [Bool.eq_iff_iff, decide_eq_true_eq, decide_eq_true_eq, ixb_mem]
theorem rplain_any (r : Rl) (w : World) (hr : RlOk w r) (hz : ∀ s ∈ r.tg.2.2, s.size ≤ 800000) :
   Calls Tryz.prog 36 #[.agg #[sv r.tg, sv r.nd, sv r.rc]] w fun e w' => e = .returned (.bool (plainR r.tg.2.2)) ∧ Below w.heap.size w w' := by
 obtain ⟨⟨A, c, L⟩, nd, rc⟩ := r
 have HA := hide hr.tg
 have hl : L.length ≤ 100000 := hr.t1
 have HZ := hide (show ∀ s ∈ L, s.size ≤ 800000 from hz)
 obtain ⟨n, hn⟩ : ∃ n, L.length = n := ⟨_, rfl⟩
 have HN := hide hn
 have HT := hide (fun k x (h : L[k]? = some x) => show (L.take (k + 1)).any isP = ((L.take k).any isP || isP x) by rw [List.take_add_one, h]; simp)
 have HF := hide (show (L.take n).any isP = L.any isP by rw [List.take_of_length_le (by omega)])
 have hn1 : (n : Int) ≤ 100000 := by omega
 unfold sv
 unfold plainR
 simp only [hn]
 clear hn hr hz
 have HB0 := hide ((Below.refl w.heap.size w).alloc (Nat.le_refl _) (.cells #[.slice A n c, .slice nd.1 nd.2.2.length nd.2.1, .slice rc.1 rc.2.2.length rc.2.1] 63))
 have HNB := hide (heapNew w (.cells #[.slice A n c, .slice nd.1 nd.2.2.length nd.2.1, .slice rc.1 rc.2.2.length rc.2.1] 63))
 go_enter Tryz.func36, Tryz.ntmps36
 go_wp2
 generalize w.alloc (.cells #[.slice A n c, .slice nd.1 nd.2.2.length nd.2.1, .slice rc.1 rc.2.2.length rc.2.1] 63) = W at HB0 HNB ⊢
 have c0 := cellOf' HNB.out (j := 0) rfl
 go_loop [3] (fun v3 => ∃ k : Nat, v3 = .int .i64 k ∧ k ≤ n ∧ Hid ((L.take k).any isP = false)) (fun v3 => n - (intOf v3).toNat)
 case atStart => exact ⟨0, rfl, by omega, hide (by simp)⟩
 case round =>
   obtain ⟨k, rfl, hk, HR⟩ := hrel
   by_cases hlt : k < n
   · obtain ⟨x, hx⟩ : ∃ x, L[k]? = some x := ⟨L[k]'(by have := HN.out; omega), gE _⟩
     obtain ⟨g, o, rfl, hg, hc⟩ := HA.out.below HB0.out k x hx
     have b1 : (k : Int) < (n : Int) := by omega
     have ht := HT.out k x hx
     have hxz := HZ.out x (List.mem_of_getElem? hx)
     have HAT := hide (rat0_any x.data.toList 37 W (by rw [data_len]; omega))
     rw [bs_of] at HAT
     have hge := ixb_ge 37 x.data.toList
     have hip := isP_ix x
     obtain ⟨q, hq⟩ : ∃ q, Lib.indexByte x.data.toList 37 = q := ⟨_, rfl⟩
     rw [hq] at HAT hge hip
     by_cases he : 0 ≤ q
     · have HE := hide (show L.any isP = true by
         rw [List.any_eq_true]
         exact ⟨x, List.mem_of_getElem? hx, by rw [hip]; exact decide_eq_true he⟩)
       clear hx ht hq hip
       go_wp2_with fail
       refine HAT.out.mono ?_
       rintro e w' ⟨rfl, rfl⟩
       go_wp2
       go_ret
       rw [HE.out]
       exact ⟨rfl, HB0.out⟩
     · have HE := hide (show (L.take (k + 1)).any isP = false by rw [ht, HR.out, hip, decide_eq_false he]; rfl)
       clear hx ht hq hip
       go_wp2_with fail
       refine HAT.out.mono ?_
       rintro e w' ⟨rfl, rfl⟩
       go_wp2
       go_round
       case rel => exact ⟨k + 1, by go_num, by omega, HE⟩
       case measure => simp [intOf]; omega
   · obtain rfl : k = n := by omega
     have HE := hide (show L.any isP = false by rw [← HF.out]; exact HR.out)
     go_wp2
     go_ret
     rw [HE.out]
     exact ⟨rfl, HB0.out⟩
theorem ownS_base {w : World} {base base' : Nat} {v : Value} {L : List ByteArray} (h : OwnS w base v L) (hb : base' ≤ base) : OwnS w base' v L :=
 ⟨h.1, h.2.imp id fun ⟨g, cap, cur, e, hg, r⟩ => ⟨g, cap, cur, e, by omega, r⟩⟩
def TgZ (L : List Rl) : Prop := ∀ r ∈ L, ∀ s ∈ r.tg.2.2, s.size ≤ 800000
theorem any_take {α : Type} {L : List α} {k : Nat} {x : α} (p : α → Bool) (h : L[k]? = some x) : (L.take (k + 1)).any p = ((L.take k).any p || p x) := by rw [List.take_add_one, h]; simp
theorem rknown_any (mac : Value) (A : Option Addr) (c : Nat) (L : List Rl) (name : ByteArray) (w : World) (hA : RLS w A L) (hl : L.length ≤ 1000) (hz : TgZ L) :
   Calls Tryz.prog 82 #[.agg #[mac, .slice A L.length c], .string name] w fun e w' => e = .returned (.bool (knownR L name)) ∧ Below w.heap.size w w' := by
 have HA := hide hA
 have HZ := hide hz
 obtain ⟨n, hn⟩ : ∃ n, L.length = n := ⟨_, rfl⟩
 have HN := hide hn
 have HT := hide (fun k x (h : L[k]? = some x) => any_take (ofR name) h)
 have HF := hide (show (L.take n).any (ofR name) = L.any (ofR name) by rw [List.take_of_length_le (by omega)])
 have hn1 : (n : Int) ≤ 1000 := by omega
 unfold knownR
 rw [hn]
 clear hn hA hz
 have HB0 := hide ((Below.refl w.heap.size w).alloc (Nat.le_refl _) (.cells #[mac, .slice A n c] 25))
 have HNB := hide (heapNew w (.cells #[mac, .slice A n c] 25))
 go_enter Tryz.func82, Tryz.ntmps82
 go_wp2
 generalize w.alloc (.cells #[mac, .slice A n c] 25) = W at HB0 HNB ⊢
 go_loopw [5] (fun v5 wr => ∃ k : Nat, v5 = .int .i64 k ∧ k ≤ n ∧ Hid ((L.take k).any (ofR name) = false) ∧ Below w.heap.size w wr ∧ wr.heap[w.heap.size]? = some (.cells #[mac, .slice A n c] 25)) (fun v5 _ => n - (intOf v5).toNat)
 case atStart => exact ⟨0, rfl, by omega, hide (by simp), HB0.out, HNB.out⟩
 case round =>
   obtain ⟨k, rfl, hk, HR, hb, hnb⟩ := hrel
   have HB := hide hb
   have HH := hide hnb
   have m0 := cellOf' hnb (j := 0) rfl
   have m1 := cellOf' hnb (j := 1) rfl
   have hlw := (Array.getElem?_eq_some_iff.1 hnb).1
   clear hb hnb
   by_cases hlt : k < n
   · obtain ⟨r, hr⟩ : ∃ r, L[k]? = some r := ⟨L[k]'(by have := HN.out; omega), gE _⟩
     obtain ⟨⟨ta, tc, tl⟩, ⟨na, nc, nl⟩, ⟨ra, rc, rl⟩⟩ := r
     have har := HA.out.below HB.out
     obtain ⟨g, o, rfl, hg, hc⟩ := har.1 k _ hr
     have HRK := hide (har.2 _ (List.mem_of_getElem? hr))
     have hzr := HZ.out _ (List.mem_of_getElem? hr)
     have c0 : wr.cell? ⟨g, o + k * 3, none⟩ = some (.slice ta tl.length tc) := by have := hc 0 _ rfl; simpa [sv] using this
     have c1 : wr.cell? ⟨g, o + k * 3 + 1, none⟩ = some (.slice na nl.length nc) := hc 1 _ rfl
     have c2 : wr.cell? ⟨g, o + k * 3 + 2, none⟩ = some (.slice ra rl.length rc) := hc 2 _ rfl
     have ht := HT.out k _ hr
     have b1 : (k : Int) < (n : Int) := by omega
     have HPL := hide (rplain_any ⟨(ta, tc, tl), (na, nc, nl), (ra, rc, rl)⟩ wr HRK.out hzr)
     have HCT := hide (fun Z (hb : Below wr.heap.size wr Z) => rhas_any ta tc tl name Z (HRK.out.tg.below hb) (by have := HRK.out.t1; simp at this; omega))
     have hof : ofR name ⟨(ta, tc, tl), (na, nc, nl), (ra, rc, rl)⟩ = (plainR tl && Lib.containsS tl name) := rfl
     have hex := fun (h : ofR name ⟨(ta, tc, tl), (na, nc, nl), (ra, rc, rl)⟩ = true) => show L.any (ofR name) = true from List.any_eq_true.2 ⟨_, List.mem_of_getElem? hr, h⟩
     obtain ⟨p1, hp1⟩ : ∃ b, plainR tl = b := ⟨_, rfl⟩
     obtain ⟨p2, hp2⟩ : ∃ b, Lib.containsS tl name = b := ⟨_, rfl⟩
     unfold sv at HPL
     simp only at HPL
     rw [hp1] at HPL hof
     rw [hp2] at HCT hof
     rw [hof] at ht hex
     have HTK := hide ht
     have HEX := hide hex
     obtain ⟨tn, htn⟩ : ∃ n, tl.length = n := ⟨_, rfl⟩
     rw [htn] at c0 HPL HCT
     have HGL := hide hg
     have hgl : g < wr.heap.size := hg
     have hce := HB.out.size
     clear hc hr hzr har ht hof hex hp1 hp2 htn
     go_wp2_with fail
     refine HPL.out.mono ?_
     rintro e w1 ⟨rfl, hb1⟩
     have m1 := (hb1.cell (p := ⟨w.heap.size, 1, none⟩) hlw).trans m1
     have c0 := (hb1.cell (p := ⟨g, o + k * 3, none⟩) hgl).trans c0
     have HH1 := hide ((hb1.block _ hlw).trans HH.out)
     have HB1 := hide (below_up HB.out hb1 hce)
     have HCT1 := hide (HCT.out w1 hb1)
     clear hb1
     cases p1 with
     | false =>
       go_wp2
       go_roundw
       case rel => exact ⟨k + 1, by go_num, by omega, hide (by rw [HTK.out, HR.out]; rfl), HB1.out, HH1.out⟩
       case measure => simp [intOf]; omega
     | true =>
       go_wp2_with fail
       refine HCT1.out.mono ?_
       rintro e w' ⟨rfl, rfl⟩
       cases p2 with
       | false =>
         go_wp2
         go_roundw
         case rel => exact ⟨k + 1, by go_num, by omega, hide (by rw [HTK.out, HR.out]; rfl), HB1.out, HH1.out⟩
         case measure => simp [intOf]; omega
       | true =>
         go_wp2
         go_ret
         rw [HEX.out rfl]
         exact ⟨rfl, HB1.out⟩
   · obtain rfl : k = n := by omega
     have HE := hide (show L.any (ofR name) = false by rw [← HF.out]; exact HR.out)
     go_wp2
     go_ret
     rw [HE.out]
     exact ⟨rfl, HB.out⟩
theorem rspecial_any (mac : Value) (A : Option Addr) (c : Nat) (L : List Rl) (name : ByteArray) (w : World) (hA : RLS w A L) (hl : L.length ≤ 1000) (hz : TgZ L) (hs : ∀ k, (specialR (L.take k) name).length ≤ 900000) :
   Calls Tryz.prog 40 #[.agg #[mac, .slice A L.length c], .string name] w fun e w' => (∃ v, e = .returned v ∧ OwnS w' w.heap.size v (specialR L name)) ∧ Below w.heap.size w w' := by
 have HA := hide hA
 have HZ := hide hz
 have HS := hide hs
 obtain ⟨n, hn⟩ : ∃ n, L.length = n := ⟨_, rfl⟩
 have HN := hide hn
 have HT := hide (fun k x (h : L[k]? = some x) => special_take h name)
 have HF := hide (show specialR (L.take n) name = specialR L name by rw [List.take_of_length_le (by omega)])
 have hn1 : (n : Int) ≤ 1000 := by omega
 rw [hn]
 clear hn hA hz hs
 have HB0 := hide ((Below.refl w.heap.size w).alloc (Nat.le_refl _) (.cells #[mac, .slice A n c] 25))
 have HNB := hide (heapNew w (.cells #[mac, .slice A n c] 25))
 go_enter Tryz.func40, Tryz.ntmps40
 go_wp2
 generalize hWW : w.alloc (.cells #[mac, .slice A n c] 25) = W at HB0 HNB ⊢
 have hwsz : W.heap.size = w.heap.size + 1 := by rw [← hWW]; simp
 clear hWW
 go_loopw [5, 6] (fun v5 v6 wr => ∃ k : Nat, v6 = .int .i64 k ∧ k ≤ n ∧ OwnS wr (w.heap.size + 1) v5 (specialR (L.take k) name) ∧ Below w.heap.size w wr ∧ wr.heap[w.heap.size]? = some (.cells #[mac, .slice A n c] 25)) (fun _ v6 _ => n - (intOf v6).toNat)
 case atStart => exact ⟨0, rfl, by omega, OwnS.nil _ _, HB0.out, HNB.out⟩
 case round =>
   obtain ⟨k, rfl, hk, ho, hb, hnb⟩ := hrel
   have HO := hide ho
   have HB := hide hb
   have HH := hide hnb
   have m0 := cellOf' hnb (j := 0) rfl
   have m1 := cellOf' hnb (j := 1) rfl
   have hlw := (Array.getElem?_eq_some_iff.1 hnb).1
   clear hb hnb ho
   by_cases hlt : k < n
   · obtain ⟨r, hr⟩ : ∃ r, L[k]? = some r := ⟨L[k]'(by have := HN.out; omega), gE _⟩
     obtain ⟨⟨ta, tc, tl⟩, ⟨na, nc, nl⟩, ⟨ra, rc, rl⟩⟩ := r
     have har := HA.out.below HB.out
     obtain ⟨g, o, rfl, hg, hc⟩ := har.1 k _ hr
     have HRK := hide (har.2 _ (List.mem_of_getElem? hr))
     have hzr := HZ.out _ (List.mem_of_getElem? hr)
     have c0 : wr.cell? ⟨g, o + k * 3, none⟩ = some (.slice ta tl.length tc) := by have := hc 0 _ rfl; simpa [sv] using this
     have c1 : wr.cell? ⟨g, o + k * 3 + 1, none⟩ = some (.slice na nl.length nc) := hc 1 _ rfl
     have c2 : wr.cell? ⟨g, o + k * 3 + 2, none⟩ = some (.slice ra rl.length rc) := hc 2 _ rfl
     have ht := HT.out k _ hr
     have hlen := HS.out (k + 1)
     rw [ht, List.length_append] at hlen
     have b1 : (k : Int) < (n : Int) := by omega
     have HPL := hide (rplain_any ⟨(ta, tc, tl), (na, nc, nl), (ra, rc, rl)⟩ wr HRK.out hzr)
     have HCT := hide (fun Z (hb : Below wr.heap.size wr Z) => rhas_any ta tc tl name Z (HRK.out.tg.below hb) (by have := HRK.out.t1; simp at this; omega))
     have hof : ofR name ⟨(ta, tc, tl), (na, nc, nl), (ra, rc, rl)⟩ = (plainR tl && Lib.containsS tl name) := rfl
     obtain ⟨p1, hp1⟩ : ∃ b, plainR tl = b := ⟨_, rfl⟩
     obtain ⟨p2, hp2⟩ : ∃ b, Lib.containsS tl name = b := ⟨_, rfl⟩
     unfold sv at HPL
     simp only at HPL
     rw [hp1] at HPL hof
     rw [hp2] at HCT hof
     rw [hof] at ht hlen
     have HTK := hide ht
     have HLN := hide hlen
     obtain ⟨tn, htn⟩ : ∃ n, tl.length = n := ⟨_, rfl⟩
     rw [htn] at c0 HPL HCT
     have HNL := hide (show SR wr na nl from HRK.out.nd)
     have hgl : g < wr.heap.size := hg
     have hce := HB.out.size
     clear hc hr hzr har ht hof hp1 hp2 htn hlen
     go_wp2_with fail
     refine HPL.out.mono ?_
     rintro e w1 ⟨rfl, hb1⟩
     have m1 := (hb1.cell (p := ⟨w.heap.size, 1, none⟩) hlw).trans m1
     have c0 := (hb1.cell (p := ⟨g, o + k * 3, none⟩) hgl).trans c0
     have c1 := (hb1.cell (p := ⟨g, o + k * 3 + 1, none⟩) hgl).trans c1
     have HH1 := hide ((hb1.block _ hlw).trans HH.out)
     have HB1 := hide (below_up HB.out hb1 hce)
     have HCT1 := hide (HCT.out w1 hb1)
     have HO1 := hide (HO.out.below' hb1)
     have HN1 := hide (HNL.out.below hb1)
     have hsz1 := hb1.size
     clear hb1
     cases p1 with
     | false =>
       have HE := hide (show specialR (L.take (k + 1)) name = specialR (L.take k) name by rw [HTK.out, if_neg (by simp), List.append_nil])
       go_wp2
       go_roundw
       case rel => exact ⟨k + 1, by go_num, by omega, by rw [HE.out]; exact HO1.out, HB1.out, HH1.out⟩
       case measure => simp [intOf]; omega
     | true =>
       go_wp2_with fail
       refine HCT1.out.mono ?_
       rintro e w' ⟨rfl, rfl⟩
       cases p2 with
       | false =>
         have HE := hide (show specialR (L.take (k + 1)) name = specialR (L.take k) name by rw [HTK.out, if_neg (by simp), List.append_nil])
         go_wp2
         go_roundw
         case rel => exact ⟨k + 1, by go_num, by omega, by rw [HE.out]; exact HO1.out, HB1.out, HH1.out⟩
         case measure => simp [intOf]; omega
       | true =>
         have HE := hide (show specialR (L.take (k + 1)) name = specialR (L.take k) name ++ nl by rw [HTK.out, if_pos (show (true && true) = true from rfl)])
         have hl2 : (specialR (L.take k) name).length + nl.length ≤ 900000 := by
           have := HLN.out
           rw [if_pos (show (true && true) = true from rfl)] at this
           exact this
         obtain ⟨v', w4, r4, o4, g4, b4⟩ := run_appS (c := nc) HO1.out HN1.out (by omega) (by omega)
         have HO4 := hide o4
         have HB4 := hide (HB1.out.grown g4 (by omega) (fun q hq => by have := (World.ownsRow.lt HO1.out q hq).1; omega))
         have HH4 := hide ((g4.block w.heap.size (by omega) (fun e => by have := (World.ownsRow.lt HO1.out _ e.symm).1; omega)).trans HH1.out)
         clear o4 g4 b4
         go_wp2_with (at_builtin; refine wpList_app_run ?_ (.tmp 30) (.tmp 36) ?_ ?_ ?_ ?_ r4 ?_; exact rfl; exact rfl; exact rfl; exact rfl; exact rfl)
         go_roundw
         case rel => exact ⟨k + 1, by go_num, by omega, by rw [HE.out]; exact HO4.out, HB4.out, HH4.out⟩
         case measure => simp [intOf]; omega
   · obtain rfl : k = n := by omega
     have HO2 := hide (ownS_base HO.out (Nat.le_succ w.heap.size))
     rw [HF.out] at HO2
     go_wp2
     go_ret
     exact ⟨⟨_, rfl, HO2.out⟩, HB.out⟩
end
section
open Go.RowKit Go.Deep Go.Maps Ln Pth Vf
attribute [local go_sem] bt_eq
theorem absF_len' (cwd p : T) : (absF cwd p).1.length ≤ 200 := by
 rcases absF_cases cwd p with ⟨l, g, e, _⟩ | ⟨e, _⟩
 · rw [e]; exact g.len
 · rw [e]; simp
end
section
open Go.RowKit Go.Deep Go.Maps Ln Pth Vf
attribute [local go_sem] bt_eq
def nodeK (S : St) (cwd : T) (s : ByteArray) : Nat := if (absF cwd s.data.toList).2 ≠ 0 then 0 else kindS S (absF cwd s.data.toList).1
theorem RS.kind {g : Nat} {S : St} {w : World} (h : Hs (RS g S) w) (hl : S.m.length ≤ 1000000) {W : World} (hb : Below w.heap.size w W) (p : T) (hp : p.length ≤ 200) :
   Calls Tryz.prog 115 #[.pointer (some ⟨g, 0, none⟩), .string (bs p)] W fun e w' => e = .returned (.int .i64 (kindS S p)) ∧ Below W.heap.size W w' := by
 obtain ⟨A, c, P, o⟩ := RS.o h
 exact rKind_any g S A c P p W (o.below hb) (by rw [← stripN_len, ← o.eq]; exact hl) (by omega)
theorem rkind18_any (g : Nat) (S : St) (cwd : T) (s : ByteArray) (w : World) (h : Hs (RS g S) w) (hl : S.m.length ≤ 1000000) (h1 : cwd.length ≤ 6600000) (h2 : s.size ≤ 6600000) :
   Calls Tryz.prog 81 #[.pointer (some ⟨g, 0, none⟩), .string (bs cwd), .string s] w fun e w' => e = .returned (.int .i64 (nodeK S cwd s)) ∧ Below w.heap.size w w' := by
 have HA := hide (rabs_any cwd s.data.toList w h1 (by rw [data_len]; exact h2))
 rw [bs_of] at HA
 have hll := absF_len' cwd s.data.toList
 have hR : nodeK S cwd s = if (absF cwd s.data.toList).2 ≠ 0 then 0 else kindS S (absF cwd s.data.toList).1 := rfl
 have HK := hide (fun W (hb : Below w.heap.size w W) => RS.kind h hl hb (absF cwd s.data.toList).1 hll)
 unfold AbsPost at HA
 obtain ⟨q, hq⟩ : ∃ q, (absF cwd s.data.toList).1 = q := ⟨_, rfl⟩
 obtain ⟨e, he⟩ : ∃ q, (absF cwd s.data.toList).2 = q := ⟨_, rfl⟩
 obtain ⟨kk, hkk⟩ : ∃ k, kindS S q = k := ⟨_, rfl⟩
 rw [hq] at HA HK hR
 rw [he] at HA hR
 rw [hkk] at HK hR
 have HR := hide hR
 clear hR hq he hkk hll h
 by_cases c1 : e = 0
 case neg =>
   obtain ⟨t1, t2⟩ := ne0 c1
   have HE := hide (HR.out.trans (if_pos c1))
   clear c1
   go_enter Tryz.func81, Tryz.ntmps81
   go_wp2_with fail
   refine HA.out.mono ?_
   rintro e w1 ⟨rfl, hb⟩
   have HB := hide hb
   clear hb
   go_wp2
   go_ret
   rw [HE.out]
   exact ⟨rfl, HB.out⟩
 subst c1
 have HE := hide (HR.out.trans (if_neg (by simp)))
 go_enter Tryz.func81, Tryz.ntmps81
 go_wp2_with fail
 refine HA.out.mono ?_
 rintro e w1 ⟨rfl, hb⟩
 have HB := hide hb
 clear hb
 go_wp2_with fail
 refine (HK.out w1 HB.out).mono ?_
 rintro e w2 ⟨rfl, hb⟩
 have HB2 := hide (below_up HB.out hb HB.out.size)
 clear hb
 go_wp2
 go_ret
 rw [HE.out]
 exact ⟨rfl, HB2.out⟩
end
section
open Go.RowKit Go.Deep Go.Maps Ln Pth Vf
attribute [local go_sem] bt_eq
theorem rspec18_any (s : T) (w : World) (hs : s.length ≤ 6600000) :
   Calls Tryz.prog 35 #[.string (bs s)] w fun e w' => e = .returned (.bool (specT s)) ∧ w = w' := by
 have hz : (bs s).size = s.length := bs_size s
 have HZ := hide hz
 have hR := spec_eq s
 obtain ⟨R, hRR⟩ : ∃ b, specT s = b := ⟨_, rfl⟩
 rw [hRR] at hR ⊢
 clear hRR
 by_cases c1 : s.length < 2
 · have HE := hide (show false = R by rw [hR, decide_eq_false (by omega)]; rfl)
   have d1 : ((bs s).size : Int) < 2 := by omega
   have d1' : (bs s).size < 2 := by omega
   clear hR c1 hz
   go_enter Tryz.func35, Tryz.ntmps35
   go_wp2
   go_ret
   exact ⟨retB HE.out, rfl⟩
 have d1 : ¬ ((bs s).size : Int) < 2 := by omega
 have d1' : ¬ (bs s).size < 2 := by omega
 have d0 : 0 < (bs s).size := by omega
 have q0 := getD_nat s 0 46 (by omega)
 by_cases c2 : s.getD 0 0 = 46
 case neg =>
   have HE := hide (show false = R by rw [hR, decide_eq_false c2]; simp)
   have g1 : ((((bt (bs s) 0 : Nat) : Int) == ((46 : Nat) : Int))) = false := by rw [q0]; simpa using c2
   have g2 : ((((bt (bs s) 0 : Nat) : Int) == 46)) = false := g1
   clear hR c1 c2 hz q0
   go_enter Tryz.func35, Tryz.ntmps35
   go_wp2
   go_ret
   exact ⟨retB HE.out, rfl⟩
 have g1 : ((((bt (bs s) 0 : Nat) : Int) == 46)) = true := by
   have : ((((bt (bs s) 0 : Nat) : Int) == ((46 : Nat) : Int))) = true := by rw [q0]; simpa using c2
   exact this
 have HF := hide (show R = (s.drop 1).all (azT.contains ·) by rw [hR, decide_eq_true c2, decide_eq_true (show 1 < s.length by omega)]; simp)
 have hni : (bs s).size ≤ 6600000 := by omega
 clear hR c1 c2 hz q0
 go_enter Tryz.func35, Tryz.ntmps35
 go_wp2
 go_loop [3] (fun v5 => ∃ k : Nat, v5 = .int .i64 k ∧ 1 ≤ k ∧ k ≤ (bs s).size ∧ Hid (((s.take k).drop 1).all (azT.contains ·) = true)) (fun v5 => (bs s).size - (intOf v5).toNat)
 case atStart => exact ⟨1, rfl, by omega, by omega, hide (by rw [List.drop_eq_nil_of_le (by rw [List.length_take]; omega)]; rfl)⟩
 case round =>
   obtain ⟨k, rfl, hk1, hk, HR⟩ := hrel
   by_cases hlt : k < (bs s).size
   · have hkl : k < s.length := by have := HZ.out; omega
     have hb := bt_bs s k
     have hz := az_iff (s.getD k 0)
     have ht := spec_all_take hkl hk1
     rw [HR.out, Bool.true_and] at ht
     have hno := fun (h : azT.contains (s.getD k 0) = false) => spec_no hkl hk1 h
     have h256 := (s.getD k 0).toNat_lt
     rw [← hb] at hz h256
     obtain ⟨x, hx⟩ : ∃ x, azT.contains (s.getD k 0) = x := ⟨_, rfl⟩
     rw [hx] at hz ht hno
     clear hb hx hkl
     by_cases c3 : bt (bs s) k = 95
     · have HE := hide (show ((s.take (k + 1)).drop 1).all (azT.contains ·) = true by rw [ht, hz, decide_eq_true c3]; rfl)
       have e1 : (((bt (bs s) k : Nat) : Int) == 95) = true := by rw [c3]; rfl
       clear hz ht hno h256
       go_wp2
       go_round
       case rel => exact ⟨k + 1, by go_num, by omega, by omega, HE⟩
       case measure => simp [intOf]; omega
     have e1 : (((bt (bs s) k : Nat) : Int) == 95) = false := by simp only [beq_eq_false_iff_ne]; omega
     by_cases c4 : bt (bs s) k < 65
     · have HE := hide (show false = R by rw [HF.out, hno (by rw [hz, decide_eq_false c3, decide_eq_false (show ¬ 65 ≤ bt (bs s) k by omega)]; rfl)])
       have e2 : (((bt (bs s) k : Nat) : Int)) < 65 := by omega
       clear hz ht hno h256
       go_wp2
       go_ret
       exact ⟨retB HE.out, rfl⟩
     have e2 : ¬ (((bt (bs s) k : Nat) : Int)) < 65 := by omega
     by_cases c5 : 90 < bt (bs s) k
     · have HE := hide (show false = R by rw [HF.out, hno (by rw [hz, decide_eq_false c3, decide_eq_false (show ¬ bt (bs s) k ≤ 90 by omega)]; simp)])
       have e3 : 90 < (((bt (bs s) k : Nat) : Int)) := by omega
       clear hz ht hno h256
       go_wp2
       go_ret
       exact ⟨retB HE.out, rfl⟩
     have e3 : ¬ 90 < (((bt (bs s) k : Nat) : Int)) := by omega
     have HE := hide (show ((s.take (k + 1)).drop 1).all (azT.contains ·) = true by rw [ht, hz, decide_eq_true (show 65 ≤ bt (bs s) k by omega), decide_eq_true (show bt (bs s) k ≤ 90 by omega)]; simp)
     clear hz ht hno h256
     go_wp2
     go_round
     case rel => exact ⟨k + 1, by go_num, by omega, by omega, HE⟩
     case measure => simp [intOf]; omega
   · obtain rfl : k = (bs s).size := by omega
     have HE := hide (show true = R by
       rw [HF.out, ← HR.out, List.take_of_length_le (by have := HZ.out; omega)])
     go_wp2
     go_ret
     exact ⟨retB HE.out, rfl⟩
def SPost (A0 : Option Addr) (L0 L : List ByteArray) (w : World) (e : Ending) (w' : World) : Prop := (∃ A c, e = .returned (.slice A L.length c) ∧ SR w' A L ∧ ∀ a, A = some a → (L = L0 ∧ A0 = some a) ∨ w.heap.size ≤ a.block) ∧ Below w.heap.size w w'
theorem ronce_any (A : Option Addr) (c : Nat) (L : List ByteArray) (s : ByteArray) (w : World) (hA : SR w A L) (hl : L.length ≤ 40000000) :
   Calls Tryz.prog 37 #[.slice A L.length c, .string s] w (SPost A L (needF L s) w) := by
 have HH := hide (rhas_any A c L s w hA (by omega))
 have hR : needF L s = if Lib.containsS L s = true then L else L ++ [s] := rfl
 obtain ⟨b, hb⟩ : ∃ b, Lib.containsS L s = b := ⟨_, rfl⟩
 obtain ⟨n, hn⟩ : ∃ n, L.length = n := ⟨_, rfl⟩
 rw [hb] at HH hR
 have HA := hide hA
 cases b with
 | true =>
   have HE := hide (show needF L s = L by rw [hR, if_pos rfl])
   have HN := hide hn
   rw [hn] at HH ⊢
   clear hA hR hb hn
   go_enter Tryz.func37, Tryz.ntmps37
   go_wp2_with fail
   refine HH.out.mono ?_
   rintro e w' ⟨rfl, rfl⟩
   go_wp2
   go_ret
   unfold SPost
   rw [HE.out, HN.out]
   exact ⟨⟨_, _, rfl, HA.out, fun a e => .inl ⟨rfl, e⟩⟩, Below.refl _ _⟩
 | false =>
   have HE := hide (show needF L s = L ++ [s] by rw [hR, if_neg (by simp)])
   obtain ⟨v1, w1, r1, o1, g1, b1⟩ := run_appS (c := c) (OwnS.nil w w.heap.size) hA (Nat.le_refl _) (by simp; omega)
   simp only [List.nil_append] at o1
   have hB1 : Below w.heap.size w w1 := (Below.refl w.heap.size w).grown g1 (Nat.le_refl _) (fun q hq => by cases hq)
   have hB2 := hB1.alloc g1.size (.cells #[.string s] 9)
   obtain ⟨v2, w2, r2, o2, g2, b2⟩ := run_appS (c := 1) (OwnS.alloc o1 (.cells #[.string s] 9)) (sr_new w1 s) (by have := g1.size; simp; omega) (by simp; omega)
   have HO := hide o2
   have HB := hide (hB2.grown g2 (by have := g1.size; simp; omega) (fun q hq => (World.ownsRow.lt o1 q hq).1))
   rw [hn] at r1 HH ⊢
   clear hA hR hb hn o1 g1 b1 hB1 hB2 o2 g2 b2
   go_enter Tryz.func37, Tryz.ntmps37
   go_wp2_with fail
   refine HH.out.mono ?_
   rintro e w' ⟨rfl, rfl⟩
   go_wp2_with (first
     | (at_builtin; refine wpList_app_run ?_ (.const (.slice none 0 0)) (.tmp 9) ?_ ?_ ?_ ?_ r1 ?_; exact rfl; exact rfl; exact rfl; exact rfl; exact rfl)
     | (at_builtin; refine wpList_app_run ?_ (.tmp 10) (.tmp 12) ?_ ?_ ?_ ?_ r2 ?_; exact rfl; exact rfl; exact rfl; exact rfl; exact rfl))
   go_ret
   unfold SPost
   rw [HE.out]
   have ho := HO.out
   obtain ⟨A', c', rfl, _, sr, hab⟩ := ho.slice
   exact ⟨⟨_, _, rfl, sr, fun a e => .inr (World.ownsRow.lt ho a.block (hab a e)).1⟩, HB.out⟩
theorem hsuf_eq (l x : T) : Lib.hasSuffix l x = decide (x.length ≤ l.length ∧ l.drop (l.length - x.length) = x) := by
 unfold Lib.hasSuffix
 rw [Bool.eq_iff_iff, List.isSuffixOf_iff_suffix, decide_eq_true_eq]
 constructor
 · rintro ⟨r, rfl⟩
   refine ⟨by simp, ?_⟩
   rw [List.length_append, Nat.add_sub_cancel, List.drop_left]
 · rintro ⟨h1, h2⟩
   exact ⟨l.take (l.length - x.length), by conv => lhs; rhs; rw [← h2]
                                           exact List.take_append_drop _ _⟩
theorem rends_any (l x : T) (w : World) (h1 : l.length ≤ 6600000) (h2 : x.length ≤ 6600000) :
   Calls Tryz.prog 80 #[.string (bs l), .string (bs x)] w fun e w' => e = .returned (.bool (Lib.hasSuffix l x)) ∧ w = w' := by
 have z1 : (bs l).size = l.length := bs_size l
 have z2 : (bs x).size = x.length := bs_size x
 have hq := hsuf_eq l x
 by_cases hx : x.length ≤ l.length
 · have HE := hide (show decide (bs ((l.drop (l.length - x.length)).take x.length) = bs x) = Lib.hasSuffix l x by
     rw [hq, List.take_of_length_le (by simp; omega), decide_eq_decide]
     exact ⟨fun h => ⟨hx, bs_inj h⟩, fun h => by rw [h.2]⟩)
   obtain ⟨m, hm⟩ : ∃ m, l.length = m + x.length := ⟨l.length - x.length, by omega⟩
   have HX := hide (show (bs l).extract m (m + x.length) = bs ((l.drop (l.length - x.length)).take x.length) by
     rw [ext_bs, Nat.add_sub_cancel_left, hm, Nat.add_sub_cancel])
   rw [hm] at z1
   clear hq
   generalize bs ((l.drop (l.length - x.length)).take x.length) = r at HE HX
   generalize Lib.hasSuffix l x = v at *
   generalize bs l = sl at *
   generalize bs x = sx at *
   go_enter Tryz.func80, Tryz.ntmps80
   go_wp2
   go_ret
   refine ⟨?_, rfl⟩
   go_light
   have h1 := HX.out
   have h2 := HE.out
   have h3 : ((sl.extract m (m + x.length)).toList == sx.toList) = v := by
     rw [← h2, ← h1]
     by_cases h : sl.extract m (m + x.length) = sx
     · simp [h]
     · rw [txt_ne h]; simp [h]
   exact congrArg (fun b => Ending.returned (.bool b)) h3
 · have HE := hide (show false = Lib.hasSuffix l x by
     rw [hq, eq_comm, decide_eq_false_iff_not]
     exact fun h => hx h.1)
   clear hq
   generalize Lib.hasSuffix l x = v at *
   go_enter Tryz.func80, Tryz.ntmps80
   go_wp2
   go_ret
   exact ⟨by rw [← HE.out]; rfl, rfl⟩
theorem rstem_any (p s : T) (w : World) (hp : p.length ≤ 1000000) (hs : s.length ≤ 6600000) :
   Calls Tryz.prog 76 #[.string (bs p), .string (bs s)] w fun e w' => e = .returned (.tuple #[.string (bs (matchT p s).1), .bool (matchT p s).2]) ∧ w = w' := by
 have HAT := hide (rat0_any p 37 w (by omega))
 rw [show (((37 : UInt8).toNat : Nat) : Int) = 37 from rfl] at HAT
 have zs : (bs s).size = s.length := bs_size s
 have zp : (bs p).size = p.length := bs_size p
 obtain ⟨ix, hix⟩ : ∃ i, Lib.indexByte p 37 = i := ⟨_, rfl⟩
 rw [hix] at HAT
 by_cases c0 : 0 ≤ ix
 case neg =>
   have HE := hide (show matchT p s = ([], decide (s = p)) by
     unfold matchT
     rw [if_pos (cuts_no (by rw [hix]; exact c0))])
   obtain ⟨q, hq⟩ : ∃ q, decide (s = p) = q := ⟨_, rfl⟩
   have heq : ((bs p).toList == (bs s).toList) = q := by rw [bs_eqv, ← hq, decide_eq_decide]; exact eq_comm
   rw [hq] at HE
   have d0 : ix < 0 := by omega
   clear c0 hix hq
   go_enter Tryz.func76, Tryz.ntmps76
   go_wp2_with fail
   refine HAT.out.mono ?_
   rintro e w' ⟨rfl, rfl⟩
   go_wp2
   go_ret2
   rw [HE.out]
   exact ⟨rfl, rfl⟩
 obtain ⟨k, rfl⟩ := Int.eq_ofNat_of_zero_le c0
 obtain ⟨h1, h2, h3, h4⟩ := cuts_at hix
 have hfl : (frontT p).length = k := by rw [h2, List.length_take]; omega
 have hbl : (backT p).length = p.length - (k + 1) := by rw [h3, List.length_drop]
 have hR : matchT p s = if s.length ≤ (frontT p).length + (backT p).length then ([], false) else if Lib.hasPrefix s (frontT p) = false then ([], false) else if Lib.hasSuffix s (backT p) = false then ([], false) else ((s.drop (frontT p).length).take (s.length - (backT p).length - (frontT p).length), true) := by
   unfold matchT
   rw [if_neg (by simp [h1])]
 rw [hfl, hbl] at hR
 have e1 : (bs p).extract 0 k = bs (frontT p) := by rw [ext_bs, h2]; rfl
 have e2 : (bs p).extract (k + 1) p.length = bs (backT p) := by rw [ext_bs, h3, List.take_of_length_le (by rw [List.length_drop]; omega)]
 have HPR := hide (rbegins_any (bs s) ((bs p).extract 0 k) w)
 have HSU := hide (rends_any s (backT p) w hs (by omega))
 rw [← e2] at HSU
 rw [e1, bs_list, bs_list] at HPR
 rw [← e1] at HPR
 have HEX := hide (ext_bs s k (s.length - (p.length - (k + 1))))
 have zx1 : ((bs p).extract 0 k).size = k := by rw [e1, bs_size, hfl]
 have zx2 : ((bs p).extract (k + 1) p.length).size = p.length - (k + 1) := by rw [e2, bs_size, hbl]
 obtain ⟨b2, hb2⟩ : ∃ b, Lib.hasPrefix s (frontT p) = b := ⟨_, rfl⟩
 obtain ⟨b3, hb3⟩ : ∃ b, Lib.hasSuffix s (backT p) = b := ⟨_, rfl⟩
 rw [hb2] at HPR hR
 rw [hb3] at HSU hR
 have HR := hide hR
 obtain ⟨sl, hsl⟩ : ∃ k, s.length = k := ⟨_, rfl⟩
 obtain ⟨pl, hpl⟩ : ∃ k, p.length = k := ⟨_, rfl⟩
 rw [hsl] at zs HR HEX hs
 rw [hpl] at zp HR HEX HSU zx2 h4 hp
 have g1 : 0 ≤ (k : Int) := by omega
 have g2 : (k : Int) < (pl : Int) := by omega
 have g3 : ¬ (k : Int) < 0 := by omega
 clear hR e1 e2 hfl hbl h1 h2 h3 hb2 hb3 hsl hpl hix c0
 generalize bs p = sp at *
 by_cases c1 : sl < pl
 · have HE := hide (HR.out.trans (if_pos (by omega)))
   have d1 : decide ((sl : Int) < (pl : Int)) = true := by simp; omega
   have d1' : decide (sl < pl) = true := by simp; omega
   clear c1 HR
   go_enter Tryz.func76, Tryz.ntmps76
   go_wp2_with fail
   refine HAT.out.mono ?_
   rintro e w' ⟨rfl, rfl⟩
   go_wp2
   go_ret2
   rw [HE.out]
   exact ⟨rfl, rfl⟩
 have d1 : decide ((sl : Int) < (pl : Int)) = false := by simp; omega
 have d1' : decide (sl < pl) = false := by simp; omega
 have hr2 := HR.out.trans (if_neg (by omega))
 cases b2 with
 | false =>
   have HE := hide (hr2.trans (if_pos rfl))
   clear hr2 HR
   go_enter Tryz.func76, Tryz.ntmps76
   go_wp2_with fail
   refine HAT.out.mono ?_
   rintro e w' ⟨rfl, rfl⟩
   go_wp2_with fail
   refine HPR.out.mono ?_
   rintro e w' ⟨rfl, rfl⟩
   go_wp2
   go_ret2
   rw [HE.out]
   exact ⟨rfl, rfl⟩
 | true =>
   have hr3 := hr2.trans (if_neg (by simp))
   clear hr2
   cases b3 with
   | false =>
     have HE := hide (hr3.trans (if_pos rfl))
     clear hr3 HR
     go_enter Tryz.func76, Tryz.ntmps76
     go_wp2_with fail
     refine HAT.out.mono ?_
     rintro e w' ⟨rfl, rfl⟩
     go_wp2_with fail
     refine HPR.out.mono ?_
     rintro e w' ⟨rfl, rfl⟩
     go_wp2_with fail
     refine HSU.out.mono ?_
     rintro e w' ⟨rfl, rfl⟩
     go_wp2
     go_ret2
     rw [HE.out]
     exact ⟨rfl, rfl⟩
   | true =>
     have HE := hide (hr3.trans (if_neg (by simp)))
     obtain ⟨bl, hbl⟩ : ∃ k', pl - (k + 1) = k' := ⟨_, rfl⟩
     rw [hbl] at HE HEX zx2
     have b4 : k ≤ sl - bl := by omega
     have b5 : ((sl - bl : Nat) : Int) = (sl : Int) - (bl : Int) := by omega
     have b6 : bl ≤ sl := by omega
     clear hr3 HR hbl
     go_enter Tryz.func76, Tryz.ntmps76
     go_wp2_with fail
     refine HAT.out.mono ?_
     rintro e w' ⟨rfl, rfl⟩
     go_wp2_with fail
     refine HPR.out.mono ?_
     rintro e w' ⟨rfl, rfl⟩
     go_wp2_with fail
     refine HSU.out.mono ?_
     rintro e w' ⟨rfl, rfl⟩
     go_wp2
     go_ret2
     rw [HE.out]
     refine ⟨?_, rfl⟩
     show Ending.returned (.tuple #[.string ((bs s).extract k (sl - bl)), .bool true]) = _
     rw [HEX.out]
theorem rfill_any (p st : T) (w : World) (hp : p.length ≤ 1000000) (hs : st.length ≤ 6600000) :
   Calls Tryz.prog 77 #[.string (bs p), .string (bs st)] w fun e w' => e = .returned (.string (bs (fillT p st))) ∧ Below w.heap.size w w' := by
 have HAT := hide (rat0_any p 37 w (by omega))
 rw [show (((37 : UInt8).toNat : Nat) : Int) = 37 from rfl] at HAT
 have zs : (bs st).size = st.length := bs_size st
 have zp : (bs p).size = p.length := bs_size p
 obtain ⟨ix, hix⟩ : ∃ i, Lib.indexByte p 37 = i := ⟨_, rfl⟩
 rw [hix] at HAT
 by_cases c0 : 0 ≤ ix
 case neg =>
   have HE := hide (show fillT p st = p by
     unfold fillT
     rw [if_pos (cuts_no (by rw [hix]; exact c0))])
   have d0 : ix < 0 := by omega
   clear c0 hix
   go_enter Tryz.func77, Tryz.ntmps77
   go_wp2_with fail
   refine HAT.out.mono ?_
   rintro e w' ⟨rfl, rfl⟩
   go_wp2
   go_ret
   rw [HE.out]
   exact ⟨rfl, Below.refl _ _⟩
 obtain ⟨k, rfl⟩ := Int.eq_ofNat_of_zero_le c0
 obtain ⟨h1, h2, h3, h4⟩ := cuts_at hix
 have e1 : (bs p).extract 0 k = bs (frontT p) := by rw [ext_bs, h2]; rfl
 have e2 : (bs p).extract (k + 1) p.length = bs (backT p) := by rw [ext_bs, h3, List.take_of_length_le (by rw [List.length_drop]; omega)]
 have HE := hide (show bs (fillT p st) = (bs p).extract 0 k ++ bs st ++ (bs p).extract (k + 1) p.length by
   unfold fillT
   rw [if_neg (by simp [h1]), e1, e2, bs_app, bs_app])
 have zx1 : ((bs p).extract 0 k).size = k := by rw [e1, bs_size, h2, List.length_take]; omega
 have zx2 : ((bs p).extract (k + 1) p.length).size = p.length - (k + 1) := by rw [e2, bs_size, h3, List.length_drop]
 obtain ⟨pl, hpl⟩ : ∃ k, p.length = k := ⟨_, rfl⟩
 rw [hpl] at zp HE zx2 h4 hp
 have g1 : 0 ≤ (k : Int) := by omega
 have g2 : (k : Int) < (pl : Int) := by omega
 have g3 : ¬ (k : Int) < 0 := by omega
 clear e1 e2 h1 h2 h3 hpl hix c0
 generalize bs p = sp at *
 have zx3 : (sp.extract 0 k ++ bs st).size = k + st.length := by rw [ByteArray.size_append, zx1, zs]
 have zx4 : pl - (k + 1) ≤ 1000000 := by omega
 go_enter Tryz.func77, Tryz.ntmps77
 go_wp2_with fail
 refine HAT.out.mono ?_
 rintro e w' ⟨rfl, rfl⟩
 go_wp2_with fail
 go_region
 go_wp2
 go_ret
 rw [HE.out]
 exact ⟨rfl, (Below.refl _ _).drew⟩
def thereK (S : St) (cwd : T) (M : List Rl) (s : ByteArray) : Bool := !decide (nodeK S cwd s = 0) || knownR M s
theorem rthere_any (mac : Value) (A : Option Addr) (c : Nat) (M : List Rl) (g : Nat) (S : St) (cwd : T) (s : ByteArray) (w : World) (hA : RLS w A M) (hml : M.length ≤ 1000) (hz : TgZ M) (h : Hs (RS g S) w) (hl : S.m.length ≤ 1000000) (h1 : cwd.length ≤ 6600000) (h2 : s.size ≤ 6600000) :
   Calls Tryz.prog 78 #[.agg #[mac, .slice A M.length c], .pointer (some ⟨g, 0, none⟩), .string (bs cwd), .string s] w fun e w' => e = .returned (.bool (thereK S cwd M s)) ∧ Below w.heap.size w w' := by
 have HK := hide (fun W (hb : Below w.heap.size w W) => rkind18_any g S cwd s W (h.below (RS.fr g S) hb) hl h1 h2)
 have HN := hide (fun W (hb : Below w.heap.size w W) => rknown_any mac A c M s W (hA.below hb) hml hz)
 have hR : thereK S cwd M s = (!decide (nodeK S cwd s = 0) || knownR M s) := rfl
 obtain ⟨kk, hkk⟩ : ∃ k, nodeK S cwd s = k := ⟨_, rfl⟩
 obtain ⟨kn, hkn⟩ : ∃ k, knownR M s = k := ⟨_, rfl⟩
 obtain ⟨n, hn⟩ : ∃ n, M.length = n := ⟨_, rfl⟩
 rw [hkk, hkn] at hR
 rw [hkk] at HK
 obtain ⟨ki, hki⟩ : ∃ i : Int, (kk : Int) = i := ⟨_, rfl⟩
 rw [hki] at HK
 rw [hkn] at HN
 rw [hn] at HN ⊢
 have HR := hide hR
 have HB0 := hide ((Below.refl w.heap.size w).alloc (Nat.le_refl _) (.cells #[mac, .slice A n c] 25))
 have HNB := hide (heapNew w (.cells #[mac, .slice A n c] 25))
 clear hA hml hz h hl h1 h2 hR hkk hkn hn
 go_enter Tryz.func78, Tryz.ntmps78
 go_wp2_with fail
 refine (HK.out _ HB0.out).mono ?_
 rintro e w1 ⟨rfl, hb⟩
 have hk1 := hb.block w.heap.size (by simp)
 have hd0 := cellOf' (hk1.trans HNB.out) (j := 0) rfl
 have hd1 := cellOf' (hk1.trans HNB.out) (j := 1) rfl
 have HB1 := hide (below_up HB0.out hb HB0.out.size)
 clear hb hk1
 by_cases k0 : kk = 0
 · have t1 : (ki == 0) = true := by simp only [beq_iff_eq]; omega
   have t2 : (ki != 0) = false := by simp [bne, t1]
   have t3 : ki = 0 := by omega
   have HE := hide (show thereK S cwd M s = kn by rw [HR.out, k0]; rfl)
   go_wp2_with fail
   refine (HN.out _ HB1.out).mono ?_
   rintro e w2 ⟨rfl, hb⟩
   have HB2 := hide (below_up HB1.out hb HB1.out.size)
   clear hb
   go_wp2
   go_ret
   rw [HE.out]
   exact ⟨rfl, HB2.out⟩
 · have HE := hide (show thereK S cwd M s = true by rw [HR.out, decide_eq_false k0]; rfl)
   have t1 : (ki == 0) = false := by simp only [beq_eq_false_iff_ne]; omega
   have t2 : (ki != 0) = true := by simp [bne, t1]
   clear k0
   go_wp2
   go_ret
   rw [HE.out]
   exact ⟨rfl, HB1.out⟩
end
section
open Go.RowKit Go.Deep Go.Maps Ln Pth Vf
attribute [local go_sem] bt_eq
theorem rtwo_any (t : T) (A : Option Addr) (c : Nat) (l : List ByteArray) (w : World) (hA : SR w A l) (hl : l.length ≤ 100000) (hz : ∀ s ∈ l, s.size ≤ 100000) :
   Calls Tryz.prog 79 #[.string (bs t), .slice A l.length c] w (TwoPost (twoF t l) w) := by
 have HA := hide hA
 have HZ := hide hz
 obtain ⟨n, hn⟩ : ∃ n, l.length = n := ⟨_, rfl⟩
 have HN := hide hn
 have HH := hide (fun Z (h : Drew w Z) => rhas_any A c l (bs t) Z (hA.drew h) (by omega))
 have HS := hide (fun k a (h : l[k]? = some a) => two_step (all := l) (t := t) l k a h)
 obtain ⟨R, hR⟩ : ∃ R, twoF t l = R := ⟨_, rfl⟩
 have HR := hide (show twoGo l t (l.drop 0) = R by rw [List.drop_zero]; exact hR)
 have HF := hide (show twoGo l t (l.drop n) = (t, [], Lib.containsS l (bs t)) by rw [List.drop_of_length_le (by omega)]; rfl)
 rw [hR, hn]
 rw [hn] at HH
 have hn1 : (n : Int) ≤ 100000 := by omega
 clear hA hz hn hl hR
 go_enter Tryz.func79, Tryz.ntmps79
 go_wp2
 go_loopw [7, 8] (fun v7 _ wr => ∃ i : Nat, v7 = .int .i64 i ∧ i ≤ n ∧ Hid (twoGo l t (l.drop i) = R) ∧ Drew w wr) (fun v7 _ _ => n - (intOf v7).toNat)
 case atStart => exact ⟨0, rfl, by omega, HR, Drew.refl _⟩
 case round =>
   obtain ⟨wo, hwo⟩ : ∃ Z, Z = wr := ⟨_, rfl⟩
   subst hwo
   obtain ⟨i, rfl, hi, HG, hdr⟩ := hrel
   have HD := hide hdr
   clear hdr
   by_cases hli : i < n
   case neg =>
     obtain rfl : i = n := by omega
     have hg := HG.out
     rw [HF.out] at hg
     have HE := hide hg
     have HHX := hide (HH.out wo HD.out)
     obtain ⟨b, hb⟩ : ∃ b, Lib.containsS l (bs t) = b := ⟨_, rfl⟩
     rw [hb] at HHX HE
     clear hg hb
     go_wp2_with fail
     refine HHX.out.mono ?_
     rintro e w' ⟨rfl, rfl⟩
     go_wp2
     go_ret3
     unfold TwoPost
     rw [← HE.out]
     exact ⟨rfl, HD.out.below⟩
   obtain ⟨x, hx⟩ : ∃ x, l[i]? = some x := ⟨l[i]'(by have := HN.out; omega), gE _⟩
   have hxz := HZ.out x (List.mem_of_getElem? hx)
   have hst := HS.out i x hx
   rw [HG.out] at hst
   have HST := hide hst
   have HX := hide hx
   have bi : (i : Int) < (n : Int) := by omega
   clear hst hx
   go_wp2
   go_loopw [8] (fun v8 wr => ∃ k : Nat, v8 = .int .i64 k ∧ k ≤ n ∧ Hid (∀ j b, j < k → l[j]? = some b → x ++ b ≠ bs t) ∧ Drew w wr) (fun v8 _ => n - (intOf v8).toNat)
   case atStart => exact ⟨0, rfl, by omega, fun j b hj => by omega, HD.out⟩
   case round =>
     obtain ⟨k, rfl, hk, HNO, hdr⟩ := hrel
     have HD2 := hide hdr
     clear hdr
     by_cases hlk : k < n
     · obtain ⟨y, hy⟩ : ∃ y, l[k]? = some y := ⟨l[k]'(by have := HN.out; omega), gE _⟩
       have hyz := HZ.out y (List.mem_of_getElem? hy)
       obtain ⟨g, o, ea, hg, hc⟩ := (HA.out.drew HD2.out) i x HX.out
       obtain ⟨g', o', ea', hg', hc'⟩ := (HA.out.drew HD2.out) k y hy
       subst ea
       obtain ⟨rfl, rfl, _⟩ : g = g' ∧ o = o' ∧ True := by injection ea' with ea'; injection ea' with e1 e2; exact ⟨e1, e2, trivial⟩
       have bk : (k : Int) < (n : Int) := by omega
       have HY := hide hy
       have zxy : (x ++ y).size = x.size + y.size := ByteArray.size_append
       clear hy ea'
       by_cases he : x ++ y = bs t
       · have heq : ((x ++ y).toList == (bs t).toList) = true := by simp [he]
         have hh := two_hit (all := l) (List.mem_of_getElem? HY.out) he
         have HE := hide (show R = (x.data.toList, t.drop x.size, true) by rw [HST.out, if_pos hh.1])
         have HE2 := hide hh.2
         clear hh he
         go_wp2
         go_quiet (fail)
         go_wp2
         go_quiet (fail)
         go_wp2
         go_ret3
         unfold TwoPost
         rw [HE.out]
         refine ⟨?_, ((HD2.out.more _).more _).below⟩
         show Ending.returned (.tuple #[.string x, .string y, .bool true]) = Ending.returned (.tuple #[.string (bs x.data.toList), .string (bs (t.drop x.size)), .bool true])
         rw [bs_of, HE2.out]
       · have heq : ((x ++ y).toList == (bs t).toList) = false := txt_ne he
         have HNO2 := hide (show ∀ j b, j < k + 1 → l[j]? = some b → x ++ b ≠ bs t from fun j b hj hb => by
           by_cases e : j = k
           · subst e
             have h1 := HY.out
             rw [h1] at hb
             injection hb with hb
             rw [← hb]
             exact he
           · exact HNO.out j b (by omega) hb)
         clear he
         go_wp2
         go_quiet (fail)
         go_wp2
         go_roundw
         case rel => exact ⟨k + 1, by go_num, by omega, HNO2, HD2.out.more _⟩
         case measure => simp [intOf]; omega
     · obtain rfl : k = n := by omega
       have HST2 := hide (show twoGo l t (l.drop (i + 1)) = R by
         rw [HST.out, if_neg]
         rw [two_miss (fun b hb => ?_)]
         · simp
         · obtain ⟨j, hj⟩ := List.getElem?_of_mem hb
           exact HNO.out j b (by have := (List.getElem?_eq_some_iff.1 hj).1; have := HN.out; omega) hj)
       go_wp2
       go_roundw
       case rel => exact ⟨i + 1, by go_num, by omega, HST2, HD2.out⟩
       case measure => simp [intOf]; omega
theorem nodeK_bs (S : St) (cwd p : T) : nodeK S cwd (bs p) = kindT S cwd p := by
 unfold nodeK kindT
 rw [bs_list]
theorem thereK_lack (S : St) (cwd : T) (M : List Rl) (s : ByteArray) : thereK S cwd M s = !lackF S cwd (knownsF M) s := by
 unfold thereK lackF
 rw [known_eq]
 have : nodeK S cwd s = kindT S cwd s.data.toList := rfl
 rw [this]
 cases knownR M s <;> simp
structure RpOk (mac : Value) (A : Option Addr) (c : Nat) (M : List Rl) (g : Nat) (S : St) (cwd : T) (w : World) : Prop where
 rl : RLS w A M
 ml : M.length ≤ 1000
 tz : ∀ r ∈ M, ∀ x ∈ r.tg.2.2, x.size ≤ 10000
 nz : ∀ r ∈ M, ∀ x ∈ r.nd.2.2, x.size ≤ 10000
 rs : Hs (RS g S) w
 sl : S.m.length ≤ 1000000
 cw : cwd.length ≤ 100000
theorem RpOk.below {mac : Value} {A : Option Addr} {c : Nat} {M : List Rl} {g : Nat} {S : St} {cwd : T} {w w' : World} (h : RpOk mac A c M g S cwd w) (hb : Below w.heap.size w w') : RpOk mac A c M g S cwd w' :=
 ⟨h.rl.below hb, h.ml, h.tz, h.nz, h.rs.below (RS.fr g S) hb, h.sl, h.cw⟩
theorem RpOk.tgz {mac : Value} {A : Option Addr} {c : Nat} {M : List Rl} {g : Nat} {S : St} {cwd : T} {w : World} (h : RpOk mac A c M g S cwd w) : TgZ M := fun r hr s hs => Nat.le_trans (h.tz r hr s hs) (by omega)
def FtPost (q : Option (List ByteArray × T)) (w : World) (e : Ending) (w' : World) : Prop := Below w.heap.size w w' ∧
 ∃ (A : Option Addr) (c n : Nat) (st : ByteArray), e = .returned (.tuple #[.slice A n c, .string st, .bool q.isSome]) ∧ ∀ x, q = some x → st = bs x.2 ∧ n = x.1.length ∧ SR w' A x.1
theorem rfits_any (mac : Value) (A : Option Addr) (c : Nat) (M : List Rl) (g : Nat) (S : St) (cwd target : T) (r : Rl) (w : World) (hok : RpOk mac A c M g S cwd w) (hr : RlOk w r) (hm : r ∈ M) (ht : target.length ≤ 6000000) :
   Calls Tryz.prog 38 #[.agg #[mac, .slice A M.length c], .pointer (some ⟨g, 0, none⟩), .string (bs cwd), .string (bs target), .agg #[sv r.tg, sv r.nd, sv r.rc]] w (FtPost (fitsO S cwd (knownsF M) target r) w) := by
 have hzt := hok.tz r hm
 have hzn := hok.nz r hm
 clear hm
 obtain ⟨⟨tA, tc, tL⟩, ⟨nA, nc, nL⟩, ⟨rA, rc, rL⟩⟩ := r
 have HT := hide (fun W (hb : Below w.heap.size w W) => hr.tg.below hb)
 have HND := hide (fun W (hb : Below w.heap.size w W) => hr.nd.below hb)
 have HTZ := hide hzt
 have HNZ := hide hzn
 have HOK := hide hok
 have ht1 := hr.t1
 have hn1 := hr.n1
 have hR : fitsO S cwd (knownsF M) target ⟨(tA, tc, tL), (nA, nc, nL), (rA, rc, rL)⟩ = match firstF target tL with
   | none => none
   | some st => if thereF S cwd (knownsF M) (fillsL nL st) = true then some (fillsL nL st, st) else none := rfl
 obtain ⟨R, hRR⟩ : ∃ R, fitsO S cwd (knownsF M) target ⟨(tA, tc, tL), (nA, nc, nL), (rA, rc, rL)⟩ = R := ⟨_, rfl⟩
 rw [hRR] at hR ⊢
 have HR := hide hR
 obtain ⟨ml, hml⟩ : ∃ n, M.length = n := ⟨_, rfl⟩
 obtain ⟨n, hn⟩ : ∃ n, tL.length = n := ⟨_, rfl⟩
 obtain ⟨m, hm⟩ : ∃ n, nL.length = n := ⟨_, rfl⟩
 have HML := hide hml
 have HNN := hide hn
 have HMM := hide hm
 simp only [sv]
 dsimp only at ht1 hn1
 rw [hn] at ht1
 rw [hm] at hn1
 simp only [hn, hm, hml]
 obtain ⟨q, hq⟩ : ∃ n, rL.length = n := ⟨_, rfl⟩
 rw [hq]
 have hB1 := (Below.refl w.heap.size w).alloc (Nat.le_refl _) (.cells #[mac, .slice A ml c] 25)
 have hN1 := heapNew w (.cells #[mac, .slice A ml c] 25)
 obtain ⟨W1, hW1⟩ : ∃ W, w.alloc (.cells #[mac, .slice A ml c] 25) = W := ⟨_, rfl⟩
 have hs1 : W1.heap.size = w.heap.size + 1 := by rw [← hW1]; simp
 rw [hW1] at hB1 hN1
 have hB2 := hB1.alloc (by omega) (.cells #[.slice tA n tc, .slice nA m nc, .slice rA q rc] 63)
 have hN2 := heapNew W1 (.cells #[.slice tA n tc, .slice nA m nc, .slice rA q rc] 63)
 have hN1' : (W1.alloc (.cells #[.slice tA n tc, .slice nA m nc, .slice rA q rc] 63)).heap[w.heap.size]? = some (.cells #[mac, .slice A ml c] 25) := (Below.heap_alloc _ _ _ (by omega)).trans hN1
 have HBX := hide hB2
 have HN1 := hide hN1'
 have HN2 := hide hN2
 clear hok hr hzt hzn hR hRR hml hn hm hq hB1 hB2 hN1 hN2 hN1'
 have hni : (n : Int) ≤ 100000 := by omega
 have hmi : (m : Int) ≤ 100000 := by omega
 go_enter Tryz.func38, Tryz.ntmps38
 go_wp2
 rw [hs1] at HN2
 obtain ⟨gr, hgr⟩ : ∃ k, w.heap.size + 1 = k := ⟨_, rfl⟩
 rw [hgr] at HN2 ⊢
 clear hgr hs1
 obtain ⟨W, hW⟩ : ∃ W, W1.alloc (.cells #[.slice tA n tc, .slice nA m nc, .slice rA q rc] 63) = W := ⟨_, rfl⟩
 rw [hW] at HBX HN1 HN2 ⊢
 clear hW hW1
 go_loopw [13, 14, 15, 16, 17, 18, 19] (fun v13 _ _ _ _ _ _ wr => ∃ k : Nat, v13 = .int .i64 k ∧ k ≤ n ∧ Hid (firstF target (tL.take k) = none) ∧ Below W.heap.size W wr) (fun v13 _ _ _ _ _ _ _ => n - (intOf v13).toNat)
 case atStart => exact ⟨0, rfl, by omega, hide rfl, Below.refl _ _⟩
 case round =>
   obtain ⟨k, rfl, hk, HFN, hb⟩ := hrel
   generalize wr = W2 at *
   have HBL := hide hb
   have HBW := hide (below_up HBX.out hb HBX.out.size)
   have HTR := hide (HT.out W2 HBW.out)
   have hnb := (hb.block gr (Array.getElem?_eq_some_iff.1 HN2.out).1).trans HN2.out
   have hnm := (hb.block w.heap.size (Array.getElem?_eq_some_iff.1 HN1.out).1).trans HN1.out
   have HNB := hide hnb
   have HNM := hide hnm
   have hd0 := cellOf' hnb (j := 0) rfl
   have hd1 := cellOf' hnb (j := 1) rfl
   clear hb hnb hnm
   by_cases hlt : k < n
   · obtain ⟨x, hx⟩ : ∃ x, tL[k]? = some x := ⟨tL[k]'(by have := HNN.out; omega), gE _⟩
     obtain ⟨gs, o, rfl, hgs, hc⟩ := HTR.out k x hx
     have hxs := HTZ.out x (List.mem_of_getElem? hx)
     (try dsimp only at hxs)
     have HMA := hide (rstem_any x.data.toList target W2 (by rw [data_len]; omega) (by omega))
     rw [bs_of] at HMA
     have HX := hide hx
     have b1 : (k : Int) < (n : Int) := by omega
     obtain ⟨st, hst⟩ : ∃ s, (matchT x.data.toList target).1 = s := ⟨_, rfl⟩
     obtain ⟨ok, hok⟩ : ∃ s, (matchT x.data.toList target).2 = s := ⟨_, rfl⟩
     have hsl := matchT_len x.data.toList target
     rw [hst] at hsl HMA
     rw [hok] at HMA
     have HOO := hide hok
     have HSS := hide hst
     clear hx hok hst hxs
     cases ok with
     | false =>
       have HST := hide (first_take _ k x HFN.out HX.out HOO.out)
       go_wp2_with fail
       refine HMA.out.mono ?_
       rintro e w' ⟨rfl, rfl⟩
       go_wp2
       go_roundw
       case rel => exact ⟨k + 1, by go_num, by omega, HST, HBL.out⟩
       case measure => simp [intOf]; omega
     | true =>
       have HFO := hide (first_found _ k x HFN.out HX.out HOO.out)
       rw [HSS.out] at HFO
       go_wp2_with fail
       refine HMA.out.mono ?_
       rintro e w' ⟨rfl, rfl⟩
       go_wp2
       go_loopw [16, 17, 18, 19] (fun v16 v17 _ _ wr => ∃ j : Nat, v17 = .int .i64 j ∧ j ≤ m ∧ OwnS wr W2.heap.size v16 ((fillsL nL st).take j) ∧ Hid (((fillsL nL st).take j).any (lackF S cwd (knownsF M)) = false) ∧ Below W2.heap.size W2 wr) (fun _ v17 _ _ _ => m - (intOf v17).toNat)
       case atStart => exact ⟨0, rfl, by omega, OwnS.nil _ _, hide (by simp), Below.refl _ _⟩
       case round =>
         obtain ⟨wi, hwi⟩ : ∃ Z, Z = wr := ⟨_, rfl⟩
         subst hwi
         obtain ⟨j, rfl, hj, ho, HLK, hb3⟩ := hrel
         have HO := hide ho
         have HB3 := hide hb3
         have HB3W := hide (below_up HBW.out hb3 HBW.out.size)
         have HNR := hide (HND.out wi HB3W.out)
         have hgl := (Array.getElem?_eq_some_iff.1 HNB.out).1
         have hgm := (Array.getElem?_eq_some_iff.1 HNM.out).1
         have hnb3 := (hb3.block gr hgl).trans HNB.out
         have hnm3 := (hb3.block w.heap.size hgm).trans HNM.out
         have hd1 := cellOf' hnb3 (j := 1) rfl
         have hmm0 := cellOf' hnm3 (j := 0) rfl
         have hmm1 := cellOf' hnm3 (j := 1) rfl
         have HM3 := hide hnm3
         have hgm3 := (Array.getElem?_eq_some_iff.1 hnm3).1
         clear ho hb3 hnb3 hnm3 hgl hgm
         by_cases hlt2 : j < m
         · obtain ⟨y, hy⟩ : ∃ y, nL[j]? = some y := ⟨nL[j]'(by have := HMM.out; omega), gE _⟩
           obtain ⟨gs2, o2, rfl, hgs2, hcy⟩ := HNR.out j y hy
           have hys := HNZ.out y (List.mem_of_getElem? hy)
           (try dsimp only at hys)
           have hfl := fillT_len y.data.toList st
           rw [data_len] at hfl
           have HFI := hide (rfill_any y.data.toList st wi (by rw [data_len]; omega) (by omega))
           rw [bs_of] at HFI
           have HTK := hide (fills_take (st := st) hy)
           have hfs : (bs (fillT y.data.toList st)).size ≤ 6600000 := by rw [bs_size]; omega
           obtain ⟨z, hz⟩ : ∃ z, bs (fillT y.data.toList st) = z := ⟨_, rfl⟩
           rw [hz] at HFI HTK hfs
           have hmem : z ∈ fillsL nL st := by unfold fillsL; exact List.mem_map.2 ⟨y, List.mem_of_getElem? hy, hz⟩
           have HTH := hide (fun Z (hb : Below w.heap.size w Z) => rthere_any mac A c M g S cwd z Z (HOK.out.rl.below hb) HOK.out.ml HOK.out.tgz (HOK.out.rs.below (RS.fr g S) hb) HOK.out.sl (by have := HOK.out.cw; omega) hfs)
           rw [HML.out] at HTH
           have hth := thereK_lack S cwd M z
           obtain ⟨tb, htb⟩ : ∃ q, lackF S cwd (knownsF M) z = q := ⟨_, rfl⟩
           rw [htb] at hth
           rw [hth] at HTH
           have b2 : (j : Int) < (m : Int) := by omega
           have hql : ((fillsL nL st).take j).length ≤ 100000 := by rw [List.length_take]; omega
           have HTB := hide htb
           clear hy hz hys hfl hfs hth htb
           cases tb with
           | true =>
             have HE := hide (show R = none by
               rw [HR.out, HFO.out]
               dsimp only
               rw [if_neg]
               unfold thereF
               rw [List.any_eq_true.2 ⟨z, hmem, HTB.out⟩]
               simp)
             go_wp2_with fail
             refine HFI.out.mono ?_
             rintro e w3 ⟨rfl, hb4⟩
             have hk1 := (hb4.block w.heap.size hgm3).trans HM3.out
             have hmm0 := cellOf' hk1 (j := 0) rfl
             have hmm1 := cellOf' hk1 (j := 1) rfl
             have HB4 := hide (below_up HB3W.out hb4 HB3W.out.size)
             clear hb4 hk1
             go_wp2_with fail
             refine (HTH.out w3 HB4.out).mono ?_
             rintro e w4 ⟨rfl, hb5⟩
             have HB5 := hide (below_up HB4.out hb5 HB4.out.size)
             clear hb5
             go_wp2
             go_ret3
             unfold FtPost
             rw [HE.out]
             exact ⟨HB5.out, none, 0, 0, ⟨#[]⟩, rfl, fun x hx => by cases hx⟩
           | false =>
             have HLK2 := hide (show ((fillsL nL st).take (j + 1)).any (lackF S cwd (knownsF M)) = false by
               rw [HTK.out, List.any_append, HLK.out]
               simp [HTB.out])
             go_wp2_with fail
             refine HFI.out.mono ?_
             rintro e w3 ⟨rfl, hb4⟩
             have hk1 := (hb4.block w.heap.size hgm3).trans HM3.out
             have hmm0 := cellOf' hk1 (j := 0) rfl
             have hmm1 := cellOf' hk1 (j := 1) rfl
             have HB4 := hide (below_up HB3W.out hb4 HB3W.out.size)
             have HB4I := hide (below_up HB3.out hb4 HB3.out.size)
             have HO4 := hide (HO.out.below' hb4)
             clear hb4 hk1
             go_wp2_with fail
             refine (HTH.out w3 HB4.out).mono ?_
             rintro e w4 ⟨rfl, hb5⟩
             have HB5 := hide (below_up HB4I.out hb5 HB4I.out.size)
             have HO5 := hide (HO4.out.below' hb5)
             obtain ⟨v4, w5, r4, o4, g4, b4⟩ := run_appS (c := 1) (OwnS.alloc HO5.out (.cells #[.string z] 9)) (sr_new w4 z) (by have := HB5.out.size; simp; omega) (by simp; omega)
             have HO6 := hide o4
             have HB6 := hide ((HB5.out.alloc HB5.out.size (.cells #[.string z] 9)).trans ((Below.refl W2.heap.size _).grown g4 (by have := HB5.out.size; simp; omega) (fun q hq => (World.ownsRow.lt HO5.out q hq).1)))
             clear o4 g4 b4 hb5
             go_wp2_with (at_builtin; refine wpList_app_run ?_ (.tmp 60) (.tmp 62) ?_ ?_ ?_ ?_ r4 ?_; exact rfl; exact rfl; exact rfl; exact rfl; exact rfl)
             go_roundw
             case rel => exact ⟨j + 1, by go_num, by omega, by rw [HTK.out]; exact HO6.out, HLK2, HB6.out⟩
             case measure => simp [intOf]; omega
         · obtain rfl : j = m := by omega
           have HTF := hide (show (fillsL nL st).take j = fillsL nL st from List.take_of_length_le (by rw [fills_len]; have := HMM.out; omega))
           rw [HTF.out] at HO HLK
           have HE := hide (show R = some (fillsL nL st, st) by
             rw [HR.out, HFO.out]
             dsimp only
             rw [if_pos]
             unfold thereF
             rw [HLK.out]
             rfl)
           obtain ⟨A9, c9, rfl, _, hs9, _⟩ := HO.out.slice
           have HS9 := hide hs9
           clear hs9
           go_wp2
           go_ret3
           unfold FtPost
           rw [HE.out]
           exact ⟨HB3W.out, A9, c9, _, bs st, rfl, fun x hx => by injection hx with hx; subst hx; exact ⟨rfl, rfl, HS9.out⟩⟩
   · obtain rfl : k = n := by omega
     have HE := hide (show R = none by
       have := HFN.out
       rw [List.take_of_length_le (by have := HNN.out; omega)] at this
       rw [HR.out, this])
     go_wp2
     go_ret3
     unfold FtPost
     rw [HE.out]
     exact ⟨HBW.out, none, 0, 0, ⟨#[]⟩, rfl, fun x hx => by cases hx⟩
end
section
open Go.RowKit Go.Deep Go.Maps Ln Pth Vf
attribute [local go_sem] bt_eq
def SuPost (q : Option (T × T)) (w : World) (e : Ending) (w' : World) : Prop := Below w.heap.size w w' ∧
 ∃ a b : ByteArray, e = .returned (.tuple #[.string a, .string b, .bool q.isSome]) ∧ ∀ x, q = some x → a = bs x.1 ∧ b = bs x.2
theorem SuPost.none {w w' : World} {e : Ending} {a b : ByteArray} {q : Option (T × T)} (hq : q = Option.none) (he : e = .returned (.tuple #[.string a, .string b, .bool false])) (hb : Below w.heap.size w w') : SuPost q w e w' := by
 subst hq
 exact ⟨hb, a, b, he, fun x hx => by cases hx⟩
theorem rsuffix_any (mac : Value) (A : Option Addr) (c : Nat) (M : List Rl) (g : Nat) (S : St) (cwd target : T) (r : Rl) (lA : Option Addr) (lc : Nat) (l : List ByteArray) (w : World) (hok : RpOk mac A c M g S cwd w) (hr : RlOk w r) (hm : r ∈ M) (ht : target.length ≤ 6000000)
   (hL : SR w lA l) (hll : l.length ≤ 100000) (hlz : ∀ s ∈ l, s.size ≤ 10000) :
   Calls Tryz.prog 41 #[.agg #[mac, .slice A M.length c], .pointer (some ⟨g, 0, none⟩), .string (bs cwd), .string (bs target), .agg #[sv r.tg, sv r.nd, sv r.rc], .slice lA l.length lc] w (SuPost (sufF S cwd (knownsF M) target l r) w) := by
 have hzt := hok.tz r hm
 clear hm
 obtain ⟨⟨tA, tc, tL⟩, ⟨nA, nc, nL⟩, ⟨rA, rc, rL⟩⟩ := r
 have HT := hide (fun W (hb : Below w.heap.size w W) => hr.tg.below hb)
 have HTZ := hide hzt
 have HOK := hide hok
 have HLZ := hide hlz
 have HTW := hide (fun (t : T) (h : t.length ≤ 10000) W (hb : Below w.heap.size w W) => rtwo_any t lA lc l W (hL.below hb) hll (fun s hs => Nat.le_trans (hlz s hs) (by omega)))
 have ht1 := hr.t1
 have hn1 := hr.n1
 have hr1 := hr.r1
 have hR : sufF S cwd (knownsF M) target l ⟨(tA, tc, tL), (nA, nc, nL), (rA, rc, rL)⟩ = if rL.length = 0 ∨ 0 < nL.length then none else
   match tL with
   | [t] => if specT t.data.toList = true ∨ Lib.hasPrefix t.data.toList [46] = false ∨ isP t = true then none else sufQ S cwd (knownsF M) target (twoF t.data.toList l)
   | _ => none := rfl
 obtain ⟨R, hRR⟩ : ∃ R, sufF S cwd (knownsF M) target l ⟨(tA, tc, tL), (nA, nc, nL), (rA, rc, rL)⟩ = R := ⟨_, rfl⟩
 rw [hRR] at hR ⊢
 have HR := hide hR
 obtain ⟨ml, hml⟩ : ∃ n, M.length = n := ⟨_, rfl⟩
 obtain ⟨n, hn⟩ : ∃ n, tL.length = n := ⟨_, rfl⟩
 obtain ⟨m, hm⟩ : ∃ n, nL.length = n := ⟨_, rfl⟩
 obtain ⟨q, hq⟩ : ∃ n, rL.length = n := ⟨_, rfl⟩
 obtain ⟨ll, hl⟩ : ∃ n, l.length = n := ⟨_, rfl⟩
 have HML := hide hml
 have HNN := hide hn
 have HMM := hide hm
 have HQQ := hide hq
 simp only [sv]
 dsimp only at ht1 hn1 hr1
 rw [hl] at HTW
 rw [hn] at ht1
 rw [hm] at hn1
 rw [hq] at hr1
 simp only [hn, hm, hml, hq, hl]
 have hB1 := (Below.refl w.heap.size w).alloc (Nat.le_refl _) (.cells #[mac, .slice A ml c] 25)
 have hN1 := heapNew w (.cells #[mac, .slice A ml c] 25)
 obtain ⟨W1, hW1⟩ : ∃ W, w.alloc (.cells #[mac, .slice A ml c] 25) = W := ⟨_, rfl⟩
 have hs1 : W1.heap.size = w.heap.size + 1 := by rw [← hW1]; simp
 rw [hW1] at hB1 hN1
 have hB2 := hB1.alloc (by omega) (.cells #[.slice tA n tc, .slice nA m nc, .slice rA q rc] 63)
 have hN2 := heapNew W1 (.cells #[.slice tA n tc, .slice nA m nc, .slice rA q rc] 63)
 have hN1' : (W1.alloc (.cells #[.slice tA n tc, .slice nA m nc, .slice rA q rc] 63)).heap[w.heap.size]? = some (.cells #[mac, .slice A ml c] 25) := (Below.heap_alloc _ _ _ (by omega)).trans hN1
 rw [hs1] at hN2
 have HBX := hide hB2
 have HN1 := hide hN1'
 have HN2 := hide hN2
 clear hok hr hzt hR hRR hml hn hm hq hB1 hB2 hN1 hN2 hN1' hL hll hlz hl
 have hni : (n : Int) ≤ 100000 := by omega
 have hmi : (m : Int) ≤ 100000 := by omega
 have hqi : (q : Int) ≤ 100000 := by omega
 obtain ⟨gr, hgr⟩ : ∃ k, w.heap.size + 1 = k := ⟨_, rfl⟩
 rw [hgr] at HN2
 obtain ⟨W, hW⟩ : ∃ W, W1.alloc (.cells #[.slice tA n tc, .slice nA m nc, .slice rA q rc] 63) = W := ⟨_, rfl⟩
 rw [hW] at HBX HN1 HN2
 have d0 := cellOf' HN2.out (j := 0) rfl
 have d1 := cellOf' HN2.out (j := 1) rfl
 have d2 := cellOf' HN2.out (j := 2) rfl
 go_enter Tryz.func41, Tryz.ntmps41
 by_cases c1 : q = 0
 · have t1 : ((q : Int) == 0) = true := by simp only [beq_iff_eq]; omega
   have HE := hide (HR.out.trans (if_pos (Or.inl (HQQ.out.trans c1))))
   clear c1
   go_wp2
   go_ret3
   exact SuPost.none HE.out rfl HBX.out
 have t1 : ((q : Int) == 0) = false := by simp only [beq_eq_false_iff_ne]; omega
 by_cases c2 : 0 < m
 · have t2 : decide ((0 : Int) < (m : Int)) = true := by simp; omega
   have t2' : decide (0 < m) = true := by simpa using c2
   have HE := hide (HR.out.trans (if_pos (Or.inr (by rw [HMM.out]; exact c2))))
   clear c2
   go_wp2
   go_ret3
   exact SuPost.none HE.out rfl HBX.out
 have t2 : decide ((0 : Int) < (m : Int)) = false := by simp; omega
 have t2' : decide (0 < m) = false := by simpa using c2
 have hr2 := HR.out.trans (if_neg (show ¬ (rL.length = 0 ∨ 0 < nL.length) by rw [HQQ.out, HMM.out]; rintro (h | h); exact c1 h; exact c2 h))
 by_cases c3 : n = 1
 case neg =>
   have t3 : ((n : Int) == 1) = false := by simp only [beq_eq_false_iff_ne]; omega
   have t3' : ((n : Int) != 1) = true := by simp [bne, t3]
   have HE := hide (show R = none by
     rw [hr2]
     match tL, HNN.out with
     | [], _ => rfl
     | [t], h => exact absurd h.symm c3
     | t :: u :: tl, _ => rfl)
   clear c1 c2 c3 hr2
   go_wp2
   go_ret3
   exact SuPost.none HE.out rfl HBX.out
 have t3 : ((n : Int) == 1) = true := by simp only [beq_iff_eq]; omega
 have t3' : ((n : Int) != 1) = false := by simp [bne, t3]
 have hpos : 0 < n := by omega
 have hposi : (0 : Int) < (n : Int) := by omega
 obtain ⟨t, rfl⟩ : ∃ t, tL = [t] := by
   match tL, HNN.out with
   | [], h => simp at h; omega
   | [t], _ => exact ⟨t, rfl⟩
   | t :: u :: tl, h => simp at h; omega
 obtain ⟨gs, o, rfl, hgs, hc⟩ := HT.out W HBX.out 0 t rfl
 rw [Nat.add_zero] at hc
 have htz := HTZ.out t (by simp)
 have HSP := hide (rspec18_any t.data.toList W (by rw [data_len]; omega))
 have HBG := hide (rbegins_any t ⟨#[46]⟩ W)
 have HAT := hide (rat0_any t.data.toList 37 W (by rw [data_len]; omega))
 rw [show (((37 : UInt8).toNat : Nat) : Int) = 37 from rfl] at HAT
 rw [bs_of] at HSP HAT
 have hip := isP_ix t
 obtain ⟨sp, hsp⟩ : ∃ b, specT t.data.toList = b := ⟨_, rfl⟩
 obtain ⟨pf, hpf⟩ : ∃ b, Lib.hasPrefix t.data.toList [46] = b := ⟨_, rfl⟩
 obtain ⟨ix, hix⟩ : ∃ b, Lib.indexByte t.data.toList 37 = b := ⟨_, rfl⟩
 rw [hsp] at HSP
 rw [show (⟨#[46]⟩ : ByteArray).data.toList = [46] from rfl, hpf] at HBG
 rw [hix] at HAT hip
 have hr3 : R = if sp = true ∨ pf = false ∨ isP t = true then none else sufQ S cwd (knownsF M) target (twoF t.data.toList l) := by rw [hr2]; dsimp only; rw [hsp, hpf]
 have HR3 := hide hr3
 clear hr2 hr3 hsp hpf hix c1 c2 c3 HR
 cases sp with
 | true =>
   have HE := hide (HR3.out.trans (if_pos (Or.inl rfl)))
   go_wp2_with fail
   refine HSP.out.mono ?_
   rintro e w' ⟨rfl, rfl⟩
   go_wp2
   go_ret3
   exact SuPost.none HE.out rfl HBX.out
 | false =>
 go_wp2_with fail
 refine HSP.out.mono ?_
 rintro e w' ⟨rfl, rfl⟩
 cases pf with
 | false =>
   have HE := hide (HR3.out.trans (if_pos (Or.inr (Or.inl rfl))))
   go_wp2_with fail
   refine HBG.out.mono ?_
   rintro e w' ⟨rfl, rfl⟩
   go_wp2
   go_ret3
   exact SuPost.none HE.out rfl HBX.out
 | true =>
 go_wp2_with fail
 refine HBG.out.mono ?_
 rintro e w' ⟨rfl, rfl⟩
 by_cases c4 : 0 ≤ ix
 · have HE := hide (HR3.out.trans (if_pos (Or.inr (Or.inr (by rw [hip]; exact decide_eq_true c4)))))
   have t4 : decide (ix ≥ 0) = true := by simpa using c4
   have t4' : decide (0 ≤ ix) = true := by simpa using c4
   clear c4 hip
   go_wp2_with fail
   refine HAT.out.mono ?_
   rintro e w' ⟨rfl, rfl⟩
   go_wp2
   go_ret3
   exact SuPost.none HE.out rfl HBX.out
 have t4 : decide (ix ≥ 0) = false := by simpa using c4
 have t4' : decide (0 ≤ ix) = false := by simpa using c4
 have HR4 := hide (HR3.out.trans (if_neg (by rw [hip, decide_eq_false c4]; simp)))
 have HTX := hide (HTW.out t.data.toList (by rw [data_len]; exact htz) W HBX.out)
 have htl := twoGo_len (B := 10000) (all := l) (t := t.data.toList) (by rw [data_len]; exact htz) l HLZ.out
 change (twoF t.data.toList l).1.length ≤ 10000 ∧ (twoF t.data.toList l).2.1.length ≤ 10000 at htl
 rw [bs_of] at HTX
 obtain ⟨⟨fa, fb, fo⟩, hfo⟩ : ∃ q, twoF t.data.toList l = q := ⟨_, rfl⟩
 rw [hfo] at HTX HR4 htl
 obtain ⟨hfa, hfb⟩ := htl
 dsimp only at hfa hfb
 unfold TwoPost at HTX
 dsimp only at HTX
 unfold sufQ at HR4
 dsimp only at HR4
 clear hip c4 hfo HR3
 go_wp2_with fail
 refine HAT.out.mono ?_
 rintro e w' ⟨rfl, rfl⟩
 go_wp2_with fail
 refine HTX.out.mono ?_
 rintro e w3 ⟨rfl, hb3⟩
 have HB3 := hide (below_up HBX.out hb3 HBX.out.size)
 have hgm := (Array.getElem?_eq_some_iff.1 HN1.out).1
 have hn13 := (hb3.block w.heap.size hgm).trans HN1.out
 have HN13 := hide hn13
 clear hb3 hgm hn13 d0 d1 d2 hc
 cases fo with
 | false =>
   have HE := hide (HR4.out.trans (if_pos rfl))
   go_wp2
   go_ret3
   exact SuPost.none HE.out rfl HB3.out
 | true =>
 have hr5 := HR4.out.trans (if_neg (by simp))
 have zt : (bs target).size = target.length := bs_size target
 have zb : (bs fb).size = fb.length := bs_size fb
 have za : (bs fa).size = fa.length := bs_size fa
 have HEN := hide (rends_any target fb w3 (by omega) (by omega))
 obtain ⟨tl, htl⟩ : ∃ k, target.length = k := ⟨_, rfl⟩
 obtain ⟨bl, hbl⟩ : ∃ k, fb.length = k := ⟨_, rfl⟩
 rw [htl] at zt ht
 rw [hbl] at zb hfb
 rw [htl, hbl] at hr5
 by_cases c5 : tl ≤ bl
 · have HE := hide (hr5.trans (if_pos c5))
   have t5 : decide ((tl : Int) ≤ (bl : Int)) = true := by simp; omega
   have t5' : decide (tl ≤ bl) = true := by simpa using c5
   clear c5 hr5
   go_wp2
   go_ret3
   exact SuPost.none HE.out rfl HB3.out
 have t5 : decide ((tl : Int) ≤ (bl : Int)) = false := by simp; omega
 have t5' : decide (tl ≤ bl) = false := by simpa using c5
 have hr6 := hr5.trans (if_neg c5)
 obtain ⟨sf, hsf⟩ : ∃ b, Lib.hasSuffix target fb = b := ⟨_, rfl⟩
 rw [hsf] at HEN hr6
 cases sf with
 | false =>
   have HE := hide (hr6.trans (if_pos rfl))
   clear c5 hr5 hr6 hsf
   go_wp2_with fail
   refine HEN.out.mono ?_
   rintro e w' ⟨rfl, rfl⟩
   go_wp2
   go_ret3
   exact SuPost.none HE.out rfl HB3.out
 | true =>
 have hr7 := hr6.trans (if_neg (by simp))
 have hlt : (target.take (tl - bl)).length = tl - bl := by rw [List.length_take]; omega
 have hex : (bs target).extract 0 (tl - bl) = bs (target.take (tl - bl)) := by rw [ext_bs]; rfl
 obtain ⟨st, hst⟩ : ∃ s, target.take (tl - bl) = s := ⟨_, rfl⟩
 rw [hst] at hr7 hlt hex
 have b4 : bl ≤ tl := by omega
 have b5 : ((tl - bl : Nat) : Int) = (tl : Int) - (bl : Int) := by omega
 have hap := bs_app st fa
 have hzn : (bs (st ++ fa)).size ≤ 6600000 := by rw [bs_size, List.length_append]; omega
 have zst : (bs st).size = tl - bl := by rw [bs_size, hlt]
 have HKI := hide (fun W (hb : Below w.heap.size w W) => rkind18_any g S cwd (bs (st ++ fa)) W (HOK.out.rs.below (RS.fr g S) hb) HOK.out.sl (by have := HOK.out.cw; omega) hzn)
 have HKN := hide (fun W (hb : Below w.heap.size w W) => rknown_any mac A c M (bs (st ++ fa)) W (HOK.out.rl.below hb) HOK.out.ml HOK.out.tgz)
 rw [nodeK_bs] at HKI
 rw [← known_eq, HML.out] at HKN
 obtain ⟨kk, hkk⟩ : ∃ k, kindT S cwd (st ++ fa) = k := ⟨_, rfl⟩
 obtain ⟨kn, hkn⟩ : ∃ k, Lib.containsS (knownsF M) (bs (st ++ fa)) = k := ⟨_, rfl⟩
 rw [hkk] at HKI hr7
 rw [hkn] at HKN hr7
 obtain ⟨ki, hki⟩ : ∃ i : Int, (kk : Int) = i := ⟨_, rfl⟩
 rw [hki] at HKI
 have hne := bs_eqv (st ++ fa) target
 obtain ⟨nd, hnd⟩ : ∃ x, st ++ fa = x := ⟨_, rfl⟩
 rw [hnd] at hr7 hap HKI HKN hne hzn
 have HR7 := hide hr7
 have HLT := hide hlt
 clear c5 hr5 hr6 hsf hr7 hst hlt hkk hkn hnd htl hbl
 have HBI := hide (HKI.out w3 HB3.out)
 by_cases c6 : nd = target
 · have HE := hide (HR7.out.trans (if_pos c6))
   have t6 : ((bs nd).toList == (bs target).toList) = true := by rw [hne]; exact decide_eq_true c6
   clear c6 hne
   go_wp2_with fail
   refine HEN.out.mono ?_
   rintro e w' ⟨rfl, rfl⟩
   go_wp2
   go_ret3
   exact SuPost.none HE.out rfl HB3.out
 have t6 : ((bs nd).toList == (bs target).toList) = false := by rw [hne]; exact decide_eq_false c6
 have hr8 := HR7.out.trans (if_neg c6)
 clear hne
 by_cases c7 : kk = 1
 · have t7 : (ki == 1) = true := by simp only [beq_iff_eq]; omega
   have HE := hide (hr8.trans (if_neg (fun h => h.1 c7)))
   clear c6 c7 hr8
   go_wp2_with fail
   refine HEN.out.mono ?_
   rintro e w' ⟨rfl, rfl⟩
   go_wp2_with fail
   refine HBI.out.mono ?_
   rintro e w4 ⟨rfl, hb4⟩
   have HB4 := hide (below_up HB3.out hb4 HB3.out.size)
   clear hb4
   go_wp2
   go_ret3
   unfold SuPost
   rw [HE.out]
   exact ⟨HB4.out, _, _, rfl, fun x hx => by injection hx with hx; subst hx; exact ⟨rfl, rfl⟩⟩
 have t7 : (ki == 1) = false := by simp only [beq_eq_false_iff_ne]; omega
 cases kn with
 | true =>
   have HE := hide (hr8.trans (if_neg (fun h => by simp at h)))
   clear c6 c7 hr8
   go_wp2_with fail
   refine HEN.out.mono ?_
   rintro e w' ⟨rfl, rfl⟩
   go_wp2_with fail
   refine HBI.out.mono ?_
   rintro e w4 ⟨rfl, hb4⟩
   have hk1 := (hb4.block w.heap.size (Array.getElem?_eq_some_iff.1 HN13.out).1).trans HN13.out
   have hmm0 := cellOf' hk1 (j := 0) rfl
   have hmm1 := cellOf' hk1 (j := 1) rfl
   have HB4 := hide (below_up HB3.out hb4 HB3.out.size)
   clear hb4 hk1
   go_wp2_with fail
   refine (HKN.out w4 HB4.out).mono ?_
   rintro e w5 ⟨rfl, hb5⟩
   have HB5 := hide (below_up HB4.out hb5 HB4.out.size)
   clear hb5
   go_wp2
   go_ret3
   unfold SuPost
   rw [HE.out]
   exact ⟨HB5.out, _, _, rfl, fun x hx => by injection hx with hx; subst hx; exact ⟨rfl, rfl⟩⟩
 | false =>
   have HE := hide (hr8.trans (if_pos ⟨c7, rfl⟩))
   clear c6 c7 hr8
   go_wp2_with fail
   refine HEN.out.mono ?_
   rintro e w' ⟨rfl, rfl⟩
   go_wp2_with fail
   refine HBI.out.mono ?_
   rintro e w4 ⟨rfl, hb4⟩
   have hk1 := (hb4.block w.heap.size (Array.getElem?_eq_some_iff.1 HN13.out).1).trans HN13.out
   have hmm0 := cellOf' hk1 (j := 0) rfl
   have hmm1 := cellOf' hk1 (j := 1) rfl
   have HB4 := hide (below_up HB3.out hb4 HB3.out.size)
   clear hb4 hk1
   go_wp2_with fail
   refine (HKN.out w4 HB4.out).mono ?_
   rintro e w5 ⟨rfl, hb5⟩
   have HB5 := hide (below_up HB4.out hb5 HB4.out.size)
   clear hb5
   go_wp2
   go_ret3
   exact SuPost.none HE.out rfl HB5.out
end
section
open Go.RowKit
inductive Cl where
 | v (x : Value)
 | r (t : TypeId) (n len : Nat) (vals : List Value)
def ClOk (w : World) (base : Nat) : Cl → Value → Prop
 | .v x, u => u = x
 | .r t n len vals, u => w.ownsRow base t n u len vals
def Cl.row : Cl → Bool
 | .v _ => false
 | .r .. => true
def Cl.s (L : List ByteArray) : Cl := .r 9 1 L.length (strVals L)
theorem ownsRow_of {w w' : World} {base : Nat} {t : TypeId} {n len : Nat} {v : Value} {vals : List Value} (h : w.ownsRow base t n v len vals) (hb : ∀ k, v.ownBlock = some k → w'.heap[k]? = w.heap[k]?) : w'.ownsRow base t n v len vals := by
 obtain ⟨h1, h2⟩ := h
 refine ⟨h1, ?_⟩
 rcases h2 with h | ⟨g, cap, cur, rfl, hg, hh, r⟩
 · exact .inl h
 · exact .inr ⟨g, cap, cur, rfl, hg, (hb g rfl).trans hh, r⟩
theorem ClOk.of {w w' : World} {base : Nat} {c : Cl} {u : Value} (h : ClOk w base c u) (hb : c.row = true → ∀ k, u.ownBlock = some k → w'.heap[k]? = w.heap[k]?) : ClOk w' base c u := by
 cases c with
 | v x => exact h
 | r t n len vals => exact ownsRow_of h (hb rfl)
structure OI (w0 : World) (ty : TypeId) (g : Nat) (cs : List Cl) (T : Nat → Prop) (w : World) : Prop where
 below : Below w0.heap.size w0 w
 tg : T g
 tw : ∀ k, T k → w0.heap.size ≤ k ∧ k < w.heap.size
 body : ∃ vs : List Value, w.heap[g]? = some (.cells vs.toArray ty) ∧ vs.length = cs.length ∧
   (∀ (j : Nat) (c : Cl) (u : Value), cs[j]? = some c → vs[j]? = some u → ClOk w w0.heap.size c u ∧ (c.row = true → ∀ k, u.ownBlock = some k → T k ∧ k ≠ g)) ∧
   ∀ (i j : Nat) (c d : Cl) (u v : Value), i ≠ j → cs[i]? = some c → cs[j]? = some d → c.row = true → d.row = true → vs[i]? = some u → vs[j]? = some v → ∀ k, u.ownBlock = some k → v.ownBlock ≠ some k
def OIP (w0 : World) (ty : TypeId) (g : Nat) (cs : List Cl) (T : Nat → Prop) (w w' : World) : Prop := ∃ T', OI w0 ty g cs T' w' ∧ Kp w w' T ∧ ∀ k, T' k → T k ∨ w.heap.size ≤ k
theorem objSet {w : World} {g j : Nat} {vs : List Value} {t : TypeId} (h : w.heap[g]? = some (.cells vs.toArray t)) (v : Value) : (w.setCell ⟨g, j, none⟩ v).heap[g]? = some (.cells (vs.set j v).toArray t) := by
 unfold World.setCell
 simp [Array.getElem?_modify, h]
theorem objKp {w : World} {g j : Nat} {v : Value} : Kp w (w.setCell ⟨g, j, none⟩ v) (fun k => k = g) :=
 ⟨rfl, rfl, rfl, by simp, fun k _ hne => Below.heap_setCell _ _ _ _ (by simpa using hne)⟩
theorem OI.step {w0 w w' : World} {ty : TypeId} {g : Nat} {cs : List Cl} {T : Nat → Prop} (h : OI w0 ty g cs T w) (hb : Below w.heap.size w w') : OI w0 ty g cs T w' := by
 obtain ⟨vs, h1, h2, h3, h4⟩ := h.body
 refine ⟨h.below.trans (hb.mono h.below.size), h.tg, fun k hk => ⟨(h.tw k hk).1, Nat.lt_of_lt_of_le (h.tw k hk).2 hb.size⟩, vs, (hb.block g (h.tw g h.tg).2).trans h1, h2, fun j c u hc hu => ?_, h4⟩
 obtain ⟨h5, h6⟩ := h3 j c u hc hu
 exact ⟨h5.of fun hr k hk => hb.block k (h.tw k (h6 hr k hk).1).2, h6⟩
theorem OI.toP {w0 w w' : World} {ty : TypeId} {g : Nat} {cs : List Cl} {T : Nat → Prop} (h : OI w0 ty g cs T w) (hb : Below w.heap.size w w') : OIP w0 ty g cs T w w' := ⟨T, h.step hb, Kp.of_below hb T, fun _ hk => .inl hk⟩
theorem OIP.trans {w0 w w' w'' : World} {ty : TypeId} {g : Nat} {cs cs' : List Cl} {T : Nat → Prop} (h : OIP w0 ty g cs T w w') (h2 : ∀ T', OI w0 ty g cs T' w' → OIP w0 ty g cs' T' w' w'') : OIP w0 ty g cs' T w w'' := by
 obtain ⟨T', f, k, gr⟩ := h
 obtain ⟨T2, f2, k2, gr2⟩ := h2 T' f
 refine ⟨T2, f2, k.trans (k2.mono gr), fun q hq => ?_⟩
 rcases gr2 q hq with h | h
 · exact gr q h
 · exact .inr (Nat.le_trans k.size h)
theorem OIP.step {w0 w w' w'' : World} {ty : TypeId} {g : Nat} {cs : List Cl} {T : Nat → Prop} (h : OIP w0 ty g cs T w w') (hb : Below w'.heap.size w' w'') : OIP w0 ty g cs T w w'' := h.trans fun _ f => f.toP hb
theorem OIP.after {w0 w w1 w' : World} {ty : TypeId} {g : Nat} {cs : List Cl} {T : Nat → Prop} (hb : Below w.heap.size w w1) (h : OIP w0 ty g cs T w1 w') : OIP w0 ty g cs T w w' := by
 obtain ⟨T', f, k, gr⟩ := h
 exact ⟨T', f, (Kp.of_below hb T).trans (k.mono fun q hq => .inl hq), fun q hq => (gr q hq).imp_right (Nat.le_trans hb.size)⟩
theorem OIP.block {w0 w w' : World} {ty : TypeId} {g : Nat} {cs : List Cl} {T : Nat → Prop} (h : OIP w0 ty g cs T w w') {b : Nat} (hb : b < w.heap.size) (hT : ¬ T b) : w'.heap[b]? = w.heap[b]? := by
 obtain ⟨T', _, k, _⟩ := h
 exact k.block b hb hT
theorem OI.cellV {w0 w : World} {ty : TypeId} {g : Nat} {cs : List Cl} {T : Nat → Prop} (h : OI w0 ty g cs T w) {j : Nat} {x : Value} (hj : cs[j]? = some (.v x)) : w.cell? ⟨g, j, none⟩ = some x := by
 obtain ⟨vs, h1, h2, h3, h4⟩ := h.body
 obtain ⟨u, hu⟩ : ∃ u, vs[j]? = some u := by
   have := (List.getElem?_eq_some_iff.1 hj).1
   exact ⟨vs[j]'(by omega), gE _⟩
 obtain ⟨h5, _⟩ := h3 j _ u hj hu
 have h5' : u = x := h5
 subst h5'
 simp [World.cell?, h1, hu]
theorem OI.cellR {w0 w : World} {ty : TypeId} {g : Nat} {cs : List Cl} {T : Nat → Prop} (h : OI w0 ty g cs T w) {j : Nat} {t : TypeId} {n len : Nat} {vals : List Value} (hj : cs[j]? = some (.r t n len vals)) : ∃ u, w.cell? ⟨g, j, none⟩ = some u ∧ w.ownsRow w0.heap.size t n u len vals ∧ ∀ k, u.ownBlock = some k → T k ∧ k ≠ g := by
 obtain ⟨vs, h1, h2, h3, h4⟩ := h.body
 obtain ⟨u, hu⟩ : ∃ u, vs[j]? = some u := by
   have := (List.getElem?_eq_some_iff.1 hj).1
   exact ⟨vs[j]'(by omega), gE _⟩
 obtain ⟨h5, h6⟩ := h3 j _ u hj hu
 exact ⟨u, by simp [World.cell?, h1, hu], h5, h6 rfl⟩
theorem OI.cellS {w0 w : World} {ty : TypeId} {g : Nat} {cs : List Cl} {T : Nat → Prop} (h : OI w0 ty g cs T w) {j : Nat} {L : List ByteArray} (hj : cs[j]? = some (Cl.s L)) : ∃ A c, w.cell? ⟨g, j, none⟩ = some (.slice A L.length c) ∧ OwnS w w0.heap.size (.slice A L.length c) L ∧ L.length ≤ c ∧ SR w A L ∧ (∀ a, A = some a → T a.block ∧ a.block ≠ g) := by
 obtain ⟨u, h1, h2, h3⟩ := h.cellR hj
 have h4 : OwnS w w0.heap.size u L := h2
 obtain ⟨A, c, rfl, hc, hs, ha⟩ := h4.slice
 exact ⟨A, c, h1, h4, hc, hs, fun a e => h3 _ (ha a e)⟩
theorem OI.free {w0 w : World} {ty : TypeId} {g : Nat} {cs : List Cl} {T : Nat → Prop} (h : OI w0 ty g cs T w) (j : Nat) : w.frozen? ⟨g, j, none⟩ = false := by
 obtain ⟨vs, h1, _⟩ := h.body
 simp [World.frozen?, h1]
theorem OI.lt {w0 w : World} {ty : TypeId} {g : Nat} {cs : List Cl} {T : Nat → Prop} (h : OI w0 ty g cs T w) : g < w.heap.size := (h.tw g h.tg).2
theorem OI.setV {w0 w : World} {ty : TypeId} {g : Nat} {cs : List Cl} {T : Nat → Prop} (h : OI w0 ty g cs T w) {j : Nat} {x : Value} (hj : cs[j]? = some (.v x)) (y : Value) : OIP w0 ty g (cs.set j (.v y)) T w (w.setCell ⟨g, j, none⟩ y) := by
 obtain ⟨vs, h1, h2, h3, h4⟩ := h.body
 have hk := objKp (w := w) (g := g) (j := j) (v := y)
 have hjl := (List.getElem?_eq_some_iff.1 hj).1
 refine ⟨T, ⟨hk.below h.below (Nat.le_refl _) (fun k e => by subst e; exact (h.tw _ h.tg).1), h.tg, fun k hk => ⟨(h.tw k hk).1, by simpa using (h.tw k hk).2⟩, vs.set j y, objSet h1 y, by simp [h2], fun i c u hc hu => ?_, fun i i' c d u v hne hc hd rc rd hu hv => ?_⟩, hk.mono fun k e => e ▸ h.tg, fun k hk => .inl hk⟩
 · by_cases e : j = i
   · subst e
     rw [List.getElem?_set_self hjl] at hc
     rw [List.getElem?_set_self (by omega)] at hu
     obtain rfl := Option.some.inj hc
     obtain rfl := Option.some.inj hu
     exact ⟨rfl, fun q => by cases q⟩
   · rw [List.getElem?_set_ne e] at hc hu
     obtain ⟨h5, h6⟩ := h3 i c u hc hu
     exact ⟨h5.of fun hr k hk2 => hk.block k (h.tw k (h6 hr k hk2).1).2 (h6 hr k hk2).2, h6⟩
 · have ei : j ≠ i := by
     rintro rfl
     rw [List.getElem?_set_self hjl] at hc
     obtain rfl := Option.some.inj hc
     cases rc
   have ei' : j ≠ i' := by
     rintro rfl
     rw [List.getElem?_set_self hjl] at hd
     obtain rfl := Option.some.inj hd
     cases rd
   rw [List.getElem?_set_ne ei] at hc hu
   rw [List.getElem?_set_ne ei'] at hd hv
   exact h4 i i' c d u v hne hc hd rc rd hu hv
theorem OI.setR {w0 w w4 : World} {ty : TypeId} {g : Nat} {cs : List Cl} {T : Nat → Prop} (h : OI w0 ty g cs T w) {j : Nat} {t : TypeId} {n len : Nat} {vals : List Value} (hj : cs[j]? = some (.r t n len vals)) {v : Value} (hv : w.cell? ⟨g, j, none⟩ = some v)
   {v4 : Value} {len4 : Nat} {vals4 : List Value} (o4 : w4.ownsRow w0.heap.size t n v4 len4 vals4) (g4 : w.grownBy w4 v.ownBlock) (b4 : ∀ k, v4.ownBlock = some k → v.ownBlock = some k ∨ w.heap.size ≤ k) :
   OIP w0 ty g (cs.set j (.r t n len4 vals4)) T w (w4.setCell ⟨g, j, none⟩ v4) := by
 obtain ⟨vs, h1, h2, h3, h4⟩ := h.body
 have hjl := (List.getElem?_eq_some_iff.1 hj).1
 have hvj : vs[j]? = some v := by
   obtain ⟨u, hu⟩ : ∃ u, vs[j]? = some u := ⟨vs[j]'(by omega), gE _⟩
   have : w.cell? ⟨g, j, none⟩ = some u := by simp [World.cell?, h1, hu]
   rw [hv] at this
   rw [hu, Option.some.inj this]
 obtain ⟨_, hvT⟩ := h3 j _ v hj hvj
 have hvT := hvT rfl
 have hl := fun k hk => (h.tw k hk).2
 have hgl := hl g h.tg
 have hk4 : Kp w w4 (fun k => v.ownBlock = some k) := ⟨g4.os, g4.tape, g4.output, g4.size, fun k hk hn => g4.block k hk (fun e => hn e.symm)⟩
 have hks := objKp (w := w4) (g := g) (j := j) (v := v4)
 have hkx : Kp w (w4.setCell ⟨g, j, none⟩ v4) (fun k => v.ownBlock = some k ∨ k = g) := (hk4.mono fun k e => .inl e).trans (hks.mono fun k e => .inl (.inr e))
 have hk : Kp w (w4.setCell ⟨g, j, none⟩ v4) T := hkx.mono fun k e => e.elim (fun e => (hvT k e).1) (fun e => e ▸ h.tg)
 have hg4 : w4.heap[g]? = some (.cells vs.toArray ty) := (hk4.block g hgl (fun e => (hvT g e).2 rfl)).trans h1
 have hv4g : v4.ownBlock ≠ some g := fun e => by
   rcases b4 g e with q | q
   · exact (hvT g q).2 rfl
   · omega
 refine ⟨fun k => T k ∨ v4.ownBlock = some k, ⟨hk.below h.below (Nat.le_refl _) (fun k e => (h.tw k e).1), .inl h.tg, fun k hk1 => ?_, vs.set j v4, objSet hg4 v4, by simp [h2], fun i c u hc hu => ?_, fun i i' c d u u' hne hc hd rc rd hu hv' => ?_⟩, hk, fun k hk1 => ?_⟩
 · rcases hk1 with hk1 | hk1
   · exact ⟨(h.tw k hk1).1, Nat.lt_of_lt_of_le (hl k hk1) hk.size⟩
   · have := World.ownsRow.lt o4 k hk1
     exact ⟨this.1, by simpa using this.2⟩
 · by_cases e : j = i
   · subst e
     rw [List.getElem?_set_self hjl] at hc
     rw [List.getElem?_set_self (by omega)] at hu
     obtain rfl := Option.some.inj hc
     obtain rfl := Option.some.inj hu
     refine ⟨ownsRow_of o4 fun k e => hks.block k (World.ownsRow.lt o4 k e).2 (fun e2 => hv4g (by rw [e, e2])), fun _ k hk2 => ⟨.inr hk2, fun e2 => hv4g (by rw [hk2, e2])⟩⟩
   · rw [List.getElem?_set_ne e] at hc hu
     obtain ⟨h5, h6⟩ := h3 i c u hc hu
     refine ⟨h5.of fun hr k hk2 => hkx.block k (hl k (h6 hr k hk2).1) ?_, fun hr k hk2 => ⟨.inl (h6 hr k hk2).1, (h6 hr k hk2).2⟩⟩
     rintro (q | q)
     · exact h4 j i _ c v u e hj hc rfl hr hvj hu k q hk2
     · exact (h6 hr k hk2).2 q
 · intro k hk1 hk2
   by_cases e : j = i
   · subst e
     rw [List.getElem?_set_self (by omega)] at hu
     obtain rfl := Option.some.inj hu
     rw [List.getElem?_set_ne hne] at hd hv'
     obtain ⟨h5, h6⟩ := h3 i' d u' hd hv'
     rcases b4 k hk1 with q | q
     · exact h4 j i' _ d v u' hne hj hd rfl rd hvj hv' k q hk2
     · have := hl k (h6 rd k hk2).1; omega
   · rw [List.getElem?_set_ne e] at hc hu
     by_cases e' : j = i'
     · subst e'
       rw [List.getElem?_set_self (by omega)] at hv'
       obtain rfl := Option.some.inj hv'
       obtain ⟨h5, h6⟩ := h3 i c u hc hu
       rcases b4 k hk2 with q | q
       · exact h4 j i _ c v u e hj hc rfl rc hvj hu k q hk1
       · have := hl k (h6 rc k hk1).1; omega
     · rw [List.getElem?_set_ne e'] at hd hv'
       exact h4 i i' c d u u' hne hc hd rc rd hu hv' k hk1 hk2
 · rcases hk1 with q | q
   · exact .inl q
   · rcases b4 k q with e | e
     · exact .inl (hvT k e).1
     · exact .inr e
theorem OI.made {w0 w : World} {ty : TypeId} {vs : List Value} (hb : Below w0.heap.size w0 w) : OI w0 ty w.heap.size (vs.map Cl.v) (fun k => k = w.heap.size) (w.alloc (.cells vs.toArray ty)) := by
 refine ⟨hb.alloc hb.size _, rfl, fun k e => by subst e; exact ⟨hb.size, by simp⟩, vs, heapNew _ _, by simp, fun j c u hc hu => ?_, fun i j c d u v hne hc hd rc => ?_⟩
 · rw [List.getElem?_map, hu] at hc
   obtain rfl := Option.some.inj hc
   exact ⟨rfl, fun q => by cases q⟩
 · rw [List.getElem?_map] at hc
   obtain ⟨x, _, rfl⟩ := Option.map_eq_some_iff.1 hc
   cases rc
theorem OI.nilR {w0 w : World} {ty : TypeId} {g : Nat} {cs : List Cl} {T : Nat → Prop} (h : OI w0 ty g cs T w) {j : Nat} (hj : cs[j]? = some (.v (.slice none 0 0))) (t : TypeId) (n : Nat) : OI w0 ty g (cs.set j (.r t n 0 [])) T w := by
 obtain ⟨vs, h1, h2, h3, h4⟩ := h.body
 have hjl := (List.getElem?_eq_some_iff.1 hj).1
 have hvj : vs[j]? = some (.slice none 0 0) := by
   obtain ⟨u, hu⟩ : ∃ u, vs[j]? = some u := ⟨vs[j]'(by omega), gE _⟩
   have : u = .slice none 0 0 := (h3 j _ u hj hu).1
   rw [hu, this]
 refine ⟨h.below, h.tg, h.tw, vs, h1, by simp [h2], fun i c u hc hu => ?_, fun i i' c d u v hne hc hd rc rd hu hv k hk => ?_⟩
 · by_cases e : j = i
   · subst e
     rw [List.getElem?_set_self hjl] at hc
     obtain rfl := Option.some.inj hc
     rw [hvj] at hu
     obtain rfl := Option.some.inj hu
     exact ⟨World.ownsRow_nil _ _ _ _, fun _ k hk => by simp [Value.ownBlock] at hk⟩
   · rw [List.getElem?_set_ne e] at hc
     exact h3 i c u hc hu
 · by_cases e : j = i
   · subst e
     rw [hvj] at hu
     obtain rfl := Option.some.inj hu
     simp [Value.ownBlock] at hk
   · by_cases e' : j = i'
     · subst e'
       rw [hvj] at hv
       obtain rfl := Option.some.inj hv
       simp [Value.ownBlock]
     · rw [List.getElem?_set_ne e] at hc
       rw [List.getElem?_set_ne e'] at hd
       exact h4 i i' c d u v hne hc hd rc rd hu hv k hk
end
section
open Go.RowKit Go.Deep Go.Maps Ln Pth Vf
attribute [local go_sem] bt_eq
def RPlanPost (w : World) (q : Pn) (e : Ending) (w' : World) : Prop := ∃ (A : Option Addr) (c : Nat) (rA : Option Addr) (rc : Nat), e = .returned (.agg #[.slice A q.needs.length c, .slice rA q.recipe.length rc, .string (bs q.stem), .bool q.rule]) ∧ SR w' A q.needs ∧ SR w' rA q.recipe ∧ (∀ a, A = some a → q.needs ≠ [] → w.heap.size ≤ a.block) ∧ Below w.heap.size w w'
def WithPost (A0 : Option Addr) (L0 : List ByteArray) (rA : Option Addr) (rc : Nat) (w : World) (q : Pn) (e : Ending) (w' : World) : Prop := ∃ (A : Option Addr) (c : Nat), e = .returned (.agg #[.slice A q.needs.length c, .slice rA q.recipe.length rc, .string (bs q.stem), .bool q.rule]) ∧ SR w' A q.needs ∧ (∀ a, A = some a → q.needs ≠ [] → (A0 = some a ∧ L0 ≠ []) ∨ w.heap.size ≤ a.block) ∧ Below w.heap.size w w'
theorem ret_with {a : Act} {W : World} {gp : Nat} {v0 v1 v2 v3 : Value} (hr : W.heap[gp]? = some (.cells #[v0, v1, v2, v3] 49)) (h8 : a.tmps.getD 8 undef = .pointer (some ⟨gp, 0, none⟩)) :
   (results Tryz.f39 a.tmps).run Tryz.prog W = .ok (.agg #[v0, v1, v2, v3]) W := by
 have c0 : W.cell? ⟨gp, 0, none⟩ = some v0 := cellOf hr (j := 0) rfl
 have c1 : W.cell? ⟨gp, 1, none⟩ = some v1 := cellOf hr (j := 1) rfl
 have c2 : W.cell? ⟨gp, 2, none⟩ = some v2 := cellOf hr (j := 2) rfl
 have c3 : W.cell? ⟨gp, 3, none⟩ = some v3 := cellOf hr (j := 3) rfl
 simp only [results, Tryz.results39]
 simp only [Array.getD_eq_getD_getElem?] at h8
 simp [go_sem, h8, c0, c1, c2, c3]
theorem rwith_any (p : Pn) (A : Option Addr) (c : Nat) (rA0 : Option Addr) (rc0 : Nat) (nA : Option Addr) (nc : Nat) (ns : List ByteArray) (rA : Option Addr) (rc : Nat) (rL : List ByteArray) (st : T) (w : World) (hA : SR w A p.needs) (hN : SR w nA ns) (hR : SR w rA rL) (hl : p.needs.length + ns.length ≤ 1000000) :
   Calls Tryz.prog 39 #[.agg #[.slice A p.needs.length c, .slice rA0 p.recipe.length rc0, .string (bs p.stem), .bool p.rule], .slice nA ns.length nc, .slice rA rL.length rc, .string (bs st)] w (WithPost A p.needs rA rc w (takesF p ns rL st)) := by
 obtain ⟨L0, R0, st0, ru0⟩ := p
 dsimp only at hA hl ⊢
 have HA := hide hA
 have HNS := hide hN
 have HRS := hide hR
 have HE := hide (show takesF ⟨L0, R0, st0, ru0⟩ ns rL st = ⟨needsF L0 ns, rL, st, true⟩ from rfl)
 obtain ⟨n, hn⟩ : ∃ n, ns.length = n := ⟨_, rfl⟩
 obtain ⟨l0, hl0⟩ : ∃ n, L0.length = n := ⟨_, rfl⟩
 obtain ⟨q0, hq0⟩ : ∃ n, R0.length = n := ⟨_, rfl⟩
 obtain ⟨q, hq⟩ : ∃ n, rL.length = n := ⟨_, rfl⟩
 have HNN := hide hn
 have HL0 := hide hl0
 have HQQ := hide hq
 rw [hn, hl0] at hl
 rw [hn, hl0, hq0, hq]
 have hb1 := (Below.refl w.heap.size w).alloc (Nat.le_refl _) (.cells #[.slice A l0 c, .slice rA0 q0 rc0, .string (bs st0), .bool ru0] 49)
 have hb2 := hb1.alloc (by simp) (.cells #[.slice none 0 0, .slice none 0 0, .string ⟨#[]⟩, .bool false] 49)
 have h1 := heapNew w (.cells #[.slice A l0 c, .slice rA0 q0 rc0, .string (bs st0), .bool ru0] 49)
 have h2 := heapNew (w.alloc (.cells #[.slice A l0 c, .slice rA0 q0 rc0, .string (bs st0), .bool ru0] 49)) (.cells #[.slice none 0 0, .slice none 0 0, .string ⟨#[]⟩, .bool false] 49)
 simp only [World.size_alloc] at h2
 have h1' := (Below.heap_alloc (w.alloc (.cells #[.slice A l0 c, .slice rA0 q0 rc0, .string (bs st0), .bool ru0] 49)) (.cells #[.slice none 0 0, .slice none 0 0, .string ⟨#[]⟩, .bool false] 49) w.heap.size (by simp)).trans h1
 obtain ⟨W, hW⟩ : ∃ W, (w.alloc (.cells #[.slice A l0 c, .slice rA0 q0 rc0, .string (bs st0), .bool ru0] 49)).alloc (.cells #[.slice none 0 0, .slice none 0 0, .string ⟨#[]⟩, .bool false] 49) = W := ⟨_, rfl⟩
 rw [hW] at hb2 h2 h1'
 have HBX := hide hb2
 have HP0 := hide h1'
 have HZ0 := hide h2
 have hni : (n : Int) ≤ 1000000 := by omega
 clear hA hN hR hn hl0 hq0 hq hb1 hb2 h1 h2 h1'
 go_enter Tryz.func39, Tryz.ntmps39
 go_wp2
 (try rw [hW])
 clear hW
 go_loopw [9] (fun v9 wr => ∃ (k : Nat) (A2 : Option Addr) (c2 : Nat), v9 = .int .i64 k ∧ k ≤ n ∧ SR wr A2 (needsF L0 (ns.take k)) ∧ Hid (∀ a, A2 = some a → needsF L0 (ns.take k) ≠ [] → (A = some a ∧ L0 ≠ [] ∧ a.block < w.heap.size) ∨ w.heap.size + 1 < a.block) ∧ wr.heap[w.heap.size]? = some (.cells #[.slice A2 (needsF L0 (ns.take k)).length c2, .slice rA0 q0 rc0, .string (bs st0), .bool ru0] 49) ∧ wr.heap[w.heap.size + 1]? = some (.cells #[.slice none 0 0, .slice none 0 0, .string ⟨#[]⟩, .bool false] 49) ∧ Below w.heap.size w wr) (fun v9 _ => n - (intOf v9).toNat)
 case atStart => exact ⟨0, A, c, rfl, by omega, HA.out.below HBX.out, hide (fun a e h => .inl ⟨e, h, HA.out.lt e h⟩), by rw [show (needsF L0 (ns.take 0)).length = l0 from HL0.out]; exact HP0.out, HZ0.out, HBX.out⟩
 case round =>
   obtain ⟨k, Ax, cx, rfl, hk, hsx, HNE, hgp, hgz, hbx⟩ := hrel
   have HSX := hide hsx
   have HGP := hide hgp
   have HGZ := hide hgz
   have HB := hide hbx
   have hgl := (Array.getElem?_eq_some_iff.1 hgp).1
   have hgl2 := (Array.getElem?_eq_some_iff.1 hgz).1
   have hlen := needsF_len (ns.take k) L0
   rw [List.length_take] at hlen
   have hl0x := HL0.out
   have hnnx := HNN.out
   by_cases hlt : k < n
   · obtain ⟨x, hx⟩ : ∃ x, ns[k]? = some x := ⟨ns[k]'(by omega), gE _⟩
     obtain ⟨gs, o, rfl, hg, hc⟩ := HNS.out k x hx
     have hcw := (hbx.cell (p := ⟨gs, o + k, none⟩) hg).trans hc
     have HTK := hide (needsF_take (l := L0) hx)
     obtain ⟨L2, hL2⟩ : ∃ l, needsF L0 (ns.take k) = l := ⟨_, rfl⟩
     rw [hL2] at HTK hlen hgp hsx HNE
     have HON := hide (fun Z (hb : Below wr.heap.size wr Z) => ronce_any Ax cx L2 x Z (hsx.below hb) (by omega))
     have HQ := hide (fun Z (hb : Below wr.heap.size wr Z) => (hb.cell (p := ⟨gs, o + k, none⟩) (World.block_lt_of_cell? _ _ hcw)).trans hcw)
     have hgne : ¬ gs = w.heap.size := by omega
     have hgd : wr.cell? ⟨w.heap.size, 0, none⟩ = some (.slice Ax L2.length cx) := cellOf hgp (j := 0) rfl
     have b1 : (k : Int) < (n : Int) := by omega
     clear hx hc hcw hsx hL2 HSX HGP hl0x hnnx hbx
     go_wp2_with fail
     refine wp_region_held_drew (S := (fun Z => Z.cell? ⟨gs, o + k, none⟩ = some (.string x))) (by kernel_rfl) (HQ.out _ (Below.refl _ _).drew) (fun hHeld => ?_)
     refine tq (i := 0) (v := ?v0) rfl rfl (by kernel_rfl) (fun _ _ _ h => h) ?y0 (by assumption) ?r0
     case y0 => intro w h; (try dsimp only at h); go_simp; try with_reducible rfl
     try simp only [sA, sB, sC]
     refine tq (i := 2) (v := ?v2) rfl rfl (by kernel_rfl) (fun _ _ _ h => h) ?y2 (by assumption) ?r2
     case y2 => intro w h; (try dsimp only at h); go_simp; try with_reducible rfl
     try simp only [sA, sB, sC]
     refine tq (i := 3) (v := ?v3) rfl rfl (by kernel_rfl) (fun _ _ _ h => h) ?y3 (by assumption) ?r3
     case y3 => intro w h; (try dsimp only at h); go_simp; try with_reducible rfl
     try simp only [sA, sB, sC]
     refine tq (i := 4) (v := ?v4) rfl rfl (by kernel_rfl) (fun _ _ _ h => h) ?y4 (by assumption) ?r4
     case y4 => intro w h; (try dsimp only at h); go_simp; try with_reducible rfl
     try simp only [sA, sB, sC]
     refine tq (i := 5) (v := ?v5) rfl rfl (by kernel_rfl) (fun _ _ _ h => h) ?y5 (by assumption) ?r5
     case y5 => intro w h; (try dsimp only at h); go_simp; try with_reducible rfl
     try simp only [sA, sB, sC]
     refine rq (k := 1) rfl (by kernel_rfl) (by kernel_rfl) (fun K hK => ?_)
     go_simp
     refine hK.out _ _ (HQ.out _ (Below.refl _ _).drew) (fun _ => ?_)
     clear hK K
     try simp only [Act.put, sA, sB, sC]
     refine rq (k := 6) rfl (by kernel_rfl) (by kernel_rfl) (fun K hK => ?_)
     go_simp
     refine (HON.out _ (Below.refl _ _).drew).mono ?_
     rintro e w2 ⟨⟨A2, c2, rfl, hs2, hfr⟩, hb2⟩
     have hp2 := (hb2.block w.heap.size hgl).trans hgp
     have hz2 := (hb2.block (w.heap.size + 1) hgl2).trans hgz
     have HP2 := hide hp2
     have HZ2 := hide hz2
     have HS2 := hide hs2
     have HFR := hide hfr
     have HB2 := hide ((Below.refl wr.heap.size wr).drew.trans hb2)
     have HQ3 := hide ((objKp (j := 0) (v := .slice A2 (needF L2 x).length c2)).cell (HQ.out _ HB2.out) hgne)
     have hc2 := cellOf hp2 (j := 0) rfl
     have hf2 := freeOf hp2 0
     clear hb2 hp2 hz2 hs2 hfr
     refine hK.out _ _ (HQ.out _ HB2.out) (fun _ => ?_)
     clear hK K
     try simp only [Act.put, sA, sB, sC]
     refine tq (i := 7) (v := ?v7) rfl rfl (by kernel_rfl) (fun _ _ _ h => h) ?y7 (by assumption) ?r7
     case y7 => intro w h; (try dsimp only at h); go_simp; try with_reducible rfl
     try simp only [sA, sB, sC]
     refine rq (k := 8) rfl (by kernel_rfl) (by kernel_rfl) (fun K hK => ?_)
     go_simp
     refine hK.out _ _ HQ3.out (fun _ => ?_)
     clear hK K
     try simp only [Act.put, sA, sB, sC]
     refine wpAnyH_done (by kernel_rfl) ?_ _
     have HP3 := hide (objSet (j := 0) (vs := [.slice Ax L2.length cx, .slice rA0 q0 rc0, .string (bs st0), .bool ru0]) HP2.out (.slice A2 (needF L2 x).length c2))
     have HK3 := hide (objKp (w := w2) (g := w.heap.size) (j := 0) (v := .slice A2 (needF L2 x).length c2))
     have HBW := hide (below_up HB.out HB2.out HB.out.size)
     go_wp2
     go_roundw
     case rel =>
       have hne2 : ∀ a, A2 = some a → needF L2 x ≠ [] → (A = some a ∧ L0 ≠ [] ∧ a.block < w.heap.size) ∨ w.heap.size + 1 < a.block := fun a e h => by
         rcases HFR.out a e with ⟨q0, q⟩ | q
         · exact HNE.out a q (fun hL => h (q0.trans hL))
         · have q2 : wr.heap.size ≤ a.block := q
           right
           omega
       refine ⟨k + 1, A2, c2, by go_num, by omega, ?_, ?_, ?_, ?_, ?_⟩
       · rw [HTK.out]
         exact HK3.out.sr HS2.out (fun a e h => by have := hne2 a e h; omega)
       · rw [HTK.out]; exact hide hne2
       · rw [HTK.out]; exact HP3.out
       · exact (HK3.out.block _ (by have := (Array.getElem?_eq_some_iff.1 HZ2.out).1; exact this) (by omega)).trans HZ2.out
       · exact HK3.out.below HBW.out (Nat.le_refl _) (fun k e => by omega)
     case measure => simp [intOf]; omega
   · obtain rfl : k = n := by omega
     have HTF := hide (show needsF L0 (ns.take k) = needsF L0 ns by rw [List.take_of_length_le (by omega)])
     rw [HTF.out] at HSX HGP HNE
     have hp1 := objSet (j := 1) (vs := [.slice Ax (needsF L0 ns).length cx, .slice rA0 q0 rc0, .string (bs st0), .bool ru0]) HGP.out (.slice rA q rc)
     have hk1 := objKp (w := wr) (g := w.heap.size) (j := 1) (v := .slice rA q rc)
     have hp2 := objSet (j := 2) hp1 (.string (bs st))
     have hk2 := objKp (w := wr.setCell ⟨w.heap.size, 1, none⟩ (.slice rA q rc)) (g := w.heap.size) (j := 2) (v := .string (bs st))
     have hp3 := objSet (j := 3) hp2 (.bool true)
     have hk3 := objKp (w := (wr.setCell ⟨w.heap.size, 1, none⟩ (.slice rA q rc)).setCell ⟨w.heap.size, 2, none⟩ (.string (bs st))) (g := w.heap.size) (j := 3) (v := .bool true)
     have hkk := hk1.trans ((hk2.trans (hk3.mono fun k e => .inl e)).mono fun k e => .inl e)
     have hzz := (hkk.block (w.heap.size + 1) hgl2 (by omega)).trans hgz
     obtain ⟨W3, hW3⟩ : ∃ W, ((wr.setCell ⟨w.heap.size, 1, none⟩ (.slice rA q rc)).setCell ⟨w.heap.size, 2, none⟩ (.string (bs st))).setCell ⟨w.heap.size, 3, none⟩ (.bool true) = W := ⟨_, rfl⟩
     rw [hW3] at hp3 hkk hzz
     simp only [List.set_cons_zero, List.set_cons_succ] at hp3
     obtain ⟨⟨q1, q2, q3, q4, q5, q6, q7, q8⟩, hgf, hkp⟩ := store4 hzz (.slice Ax (needsF L0 ns).length cx) (.slice rA q rc) (.string (bs st)) (.bool true)
     have HGF := hide hgf
     have HBF := hide (hkp.below (hkk.below HB.out (Nat.le_refl _) (fun k e => by omega)) (Nat.le_refl _) (fun k e => by omega))
     have HSF := hide (hkp.sr (hkk.sr HSX.out (fun a e h => by have := HNE.out a e h; omega)) (fun a e h => by have := HNE.out a e h; omega))
     have HRF := hide (HRS.out.below HBF.out)
     have m0 := cellOf hp3 (j := 0) rfl
     have m1 := cellOf hp3 (j := 1) rfl
     have m2 := cellOf hp3 (j := 2) rfl
     have m3 := cellOf hp3 (j := 3) rfl
     have n1 := cellOf HGP.out (j := 1) rfl
     have f1 := freeOf HGP.out 1
     have n2 := cellOf hp1 (j := 2) rfl
     have f2 := freeOf hp1 2
     have n3 := cellOf hp2 (j := 3) rfl
     have f3 := freeOf hp2 3
     clear hgf hkp hkk hzz hp1 hp2 hp3 hk1 hk2 hk3 hgp hgz hsx hbx hlen hl0x hnnx
     go_wp2
     refine bodyPost_ret (ret_with HGF.out rfl) rfl ?_
     rw [HE.out]
     unfold WithPost
     exact ⟨Ax, cx, by rw [HQQ.out], HSF.out, fun a e h => (HNE.out a e h).imp (fun q => ⟨q.1, q.2.1⟩) (fun q => by omega), HBF.out⟩
end
section
open Go.RowKit Go.Deep Go.Maps Ln Pth Vf
attribute [local go_sem] bt_eq
theorem ret_rplan {a : Act} {W : World} {gp : Nat} {v0 v1 v2 v3 : Value} (hr : W.heap[gp]? = some (.cells #[v0, v1, v2, v3] 49)) (h8 : a.tmps.getD 8 undef = .pointer (some ⟨gp, 0, none⟩)) :
   (results Tryz.f21 a.tmps).run Tryz.prog W = .ok (.agg #[v0, v1, v2, v3]) W := by
 have c0 : W.cell? ⟨gp, 0, none⟩ = some v0 := cellOf hr (j := 0) rfl
 have c1 : W.cell? ⟨gp, 1, none⟩ = some v1 := cellOf hr (j := 1) rfl
 have c2 : W.cell? ⟨gp, 2, none⟩ = some v2 := cellOf hr (j := 2) rfl
 have c3 : W.cell? ⟨gp, 3, none⟩ = some v3 := cellOf hr (j := 3) rfl
 simp only [results, Tryz.results21]
 simp only [Array.getD_eq_getD_getElem?] at h8
 simp [go_sem, h8, c0, c1, c2, c3]
structure PI (w : World) (gm g8 gp : Nat) (mk : Array Value) (q : Pn) (A : Option Addr) (c : Nat) (rA : Option Addr) (rc : Nat) (W : World) : Prop where
 below : Below w.heap.size w W
 mk_ : W.heap[gm]? = some (.cells mk 25)
 zero : W.heap[g8]? = some (.cells #[.slice none 0 0, .slice none 0 0, .string ⟨#[]⟩, .bool false] 49)
 plan : W.heap[gp]? = some (.cells #[.slice A q.needs.length c, .slice rA q.recipe.length rc, .string (bs q.stem), .bool q.rule] 49)
 needs : SR W A q.needs
 rec_ : SR W rA q.recipe
 na : ∀ a, A = some a → q.needs ≠ [] → gp < a.block
 ra : ∀ a, rA = some a → q.recipe ≠ [] → a.block < w.heap.size
 o1 : w.heap.size ≤ gm
 o2 : gm < g8
 o3 : g8 < gp
theorem PI.step {w W W' : World} {gm g8 gp : Nat} {mk : Array Value} {q : Pn} {A : Option Addr} {c : Nat} {rA : Option Addr} {rc : Nat} (h : PI w gm g8 gp mk q A c rA rc W) (hb : Below W.heap.size W W') : PI w gm g8 gp mk q A c rA rc W' :=
 ⟨below_up h.below hb h.below.size, (hb.block gm (Array.getElem?_eq_some_iff.1 h.mk_).1).trans h.mk_, (hb.block g8 (Array.getElem?_eq_some_iff.1 h.zero).1).trans h.zero, (hb.block gp (Array.getElem?_eq_some_iff.1 h.plan).1).trans h.plan, h.needs.below hb, h.rec_.below hb, h.na, h.ra, h.o1, h.o2, h.o3⟩
theorem PI.put {w W : World} {gm g8 gp : Nat} {mk : Array Value} {q q' : Pn} {A A' : Option Addr} {c c' : Nat} {rA rA' : Option Addr} {rc rc' : Nat} (h : PI w gm g8 gp mk q A c rA rc W) {j : Nat} {v : Value}
   (hp : (W.setCell ⟨gp, j, none⟩ v).heap[gp]? = some (.cells #[.slice A' q'.needs.length c', .slice rA' q'.recipe.length rc', .string (bs q'.stem), .bool q'.rule] 49))
   (hn : SR W A' q'.needs) (hr : SR W rA' q'.recipe) (hna : ∀ a, A' = some a → q'.needs ≠ [] → gp < a.block) (hra : ∀ a, rA' = some a → q'.recipe ≠ [] → a.block < w.heap.size) : PI w gm g8 gp mk q' A' c' rA' rc' (W.setCell ⟨gp, j, none⟩ v) := by
 have hk := objKp (w := W) (g := gp) (j := j) (v := v)
 have := h.o1
 have := h.o2
 have := h.o3
 refine ⟨hk.below h.below (Nat.le_refl _) (fun k e => by omega), (hk.block gm (Array.getElem?_eq_some_iff.1 h.mk_).1 (by omega)).trans h.mk_, (hk.block g8 (Array.getElem?_eq_some_iff.1 h.zero).1 (by omega)).trans h.zero, hp, hk.sr hn (fun a e q => ?_), hk.sr hr (fun a e q => ?_), hna, hra, h.o1, h.o2, h.o3⟩
 · have := hna a e q; omega
 · have := hra a e q; omega
theorem PI.fin {w W : World} {gm g8 gp : Nat} {mk : Array Value} {q : Pn} {A : Option Addr} {c : Nat} {rA : Option Addr} {rc : Nat} (h : PI w gm g8 gp mk q A c rA rc W) :
   let v0 : Value := .slice A q.needs.length c
   let v1 : Value := .slice rA q.recipe.length rc
   (W.cell? ⟨gp, 0, none⟩ = some v0 ∧ W.cell? ⟨gp, 1, none⟩ = some v1 ∧ W.cell? ⟨gp, 2, none⟩ = some (.string (bs q.stem)) ∧ W.cell? ⟨gp, 3, none⟩ = some (.bool q.rule)) ∧
   (W.cell? ⟨g8, 0, none⟩ = some (.slice none 0 0) ∧ W.frozen? ⟨g8, 0, none⟩ = false ∧
   (W.setCell ⟨g8, 0, none⟩ v0).cell? ⟨g8, 1, none⟩ = some (.slice none 0 0) ∧ (W.setCell ⟨g8, 0, none⟩ v0).frozen? ⟨g8, 1, none⟩ = false ∧
   ((W.setCell ⟨g8, 0, none⟩ v0).setCell ⟨g8, 1, none⟩ v1).cell? ⟨g8, 2, none⟩ = some (.string ⟨#[]⟩) ∧ ((W.setCell ⟨g8, 0, none⟩ v0).setCell ⟨g8, 1, none⟩ v1).frozen? ⟨g8, 2, none⟩ = false ∧
   (((W.setCell ⟨g8, 0, none⟩ v0).setCell ⟨g8, 1, none⟩ v1).setCell ⟨g8, 2, none⟩ (.string (bs q.stem))).cell? ⟨g8, 3, none⟩ = some (.bool false) ∧ (((W.setCell ⟨g8, 0, none⟩ v0).setCell ⟨g8, 1, none⟩ v1).setCell ⟨g8, 2, none⟩ (.string (bs q.stem))).frozen? ⟨g8, 3, none⟩ = false) ∧
   ((((W.setCell ⟨g8, 0, none⟩ v0).setCell ⟨g8, 1, none⟩ v1).setCell ⟨g8, 2, none⟩ (.string (bs q.stem))).setCell ⟨g8, 3, none⟩ (.bool q.rule)).heap[g8]? = some (.cells #[v0, v1, .string (bs q.stem), .bool q.rule] 49) ∧
   RPlanPost w q (.returned (.agg #[v0, v1, .string (bs q.stem), .bool q.rule])) ((((W.setCell ⟨g8, 0, none⟩ v0).setCell ⟨g8, 1, none⟩ v1).setCell ⟨g8, 2, none⟩ (.string (bs q.stem))).setCell ⟨g8, 3, none⟩ (.bool q.rule)) := by
 intro v0 v1
 obtain ⟨hs, hg, hk⟩ := store4 h.zero v0 v1 (.string (bs q.stem)) (.bool q.rule)
 have := h.o1
 have := h.o2
 have := h.o3
 refine ⟨⟨cellOf h.plan (j := 0) rfl, cellOf h.plan (j := 1) rfl, cellOf h.plan (j := 2) rfl, cellOf h.plan (j := 3) rfl⟩, hs, hg, A, c, rA, rc, rfl, hk.sr h.needs (fun a e q => ?_), hk.sr h.rec_ (fun a e q => ?_), fun a e q => (by have := h.na a e q; omega), hk.below h.below (Nat.le_refl _) (fun k e => by omega)⟩
 · have := h.na a e q; omega
 · have := h.ra a e q; omega
theorem PI.withF {w W W2 : World} {gm g8 gp : Nat} {mk : Array Value} {q q2 : Pn} {A : Option Addr} {c : Nat} {rA : Option Addr} {rc : Nat} (h : PI w gm g8 gp mk q A c rA rc W) {A2 : Option Addr} {c2 : Nat} {rA2 : Option Addr} {rc2 : Nat}
   (hs : SR W2 A2 q2.needs) (hf : ∀ a, A2 = some a → q2.needs ≠ [] → (A = some a ∧ q.needs ≠ []) ∨ W.heap.size ≤ a.block) (hb : Below W.heap.size W W2) (hr : SR w rA2 q2.recipe) :
   let v0 : Value := .slice A2 q2.needs.length c2
   let v1 : Value := .slice rA2 q2.recipe.length rc2
   (W2.cell? ⟨g8, 0, none⟩ = some (.slice none 0 0) ∧ W2.frozen? ⟨g8, 0, none⟩ = false ∧
   (W2.setCell ⟨g8, 0, none⟩ v0).cell? ⟨g8, 1, none⟩ = some (.slice none 0 0) ∧ (W2.setCell ⟨g8, 0, none⟩ v0).frozen? ⟨g8, 1, none⟩ = false ∧
   ((W2.setCell ⟨g8, 0, none⟩ v0).setCell ⟨g8, 1, none⟩ v1).cell? ⟨g8, 2, none⟩ = some (.string ⟨#[]⟩) ∧ ((W2.setCell ⟨g8, 0, none⟩ v0).setCell ⟨g8, 1, none⟩ v1).frozen? ⟨g8, 2, none⟩ = false ∧
   (((W2.setCell ⟨g8, 0, none⟩ v0).setCell ⟨g8, 1, none⟩ v1).setCell ⟨g8, 2, none⟩ (.string (bs q2.stem))).cell? ⟨g8, 3, none⟩ = some (.bool false) ∧ (((W2.setCell ⟨g8, 0, none⟩ v0).setCell ⟨g8, 1, none⟩ v1).setCell ⟨g8, 2, none⟩ (.string (bs q2.stem))).frozen? ⟨g8, 3, none⟩ = false) ∧
   ((((W2.setCell ⟨g8, 0, none⟩ v0).setCell ⟨g8, 1, none⟩ v1).setCell ⟨g8, 2, none⟩ (.string (bs q2.stem))).setCell ⟨g8, 3, none⟩ (.bool q2.rule)).heap[g8]? = some (.cells #[v0, v1, .string (bs q2.stem), .bool q2.rule] 49) ∧
   RPlanPost w q2 (.returned (.agg #[v0, v1, .string (bs q2.stem), .bool q2.rule])) ((((W2.setCell ⟨g8, 0, none⟩ v0).setCell ⟨g8, 1, none⟩ v1).setCell ⟨g8, 2, none⟩ (.string (bs q2.stem))).setCell ⟨g8, 3, none⟩ (.bool q2.rule)) := by
 intro v0 v1
 have h2 := h.step hb
 obtain ⟨hs4, hg, hk⟩ := store4 h2.zero v0 v1 (.string (bs q2.stem)) (.bool q2.rule)
 have := h.o1
 have := h.o2
 have := h.o3
 have hgl := (Array.getElem?_eq_some_iff.1 h.zero).1
 refine ⟨hs4, hg, A2, c2, rA2, rc2, rfl, hk.sr hs (fun a e q => ?_), hk.sr (hr.below h2.below) (fun a e q => ?_), fun a e q => ?_, hk.below h2.below (Nat.le_refl _) (fun k e => by omega)⟩
 · rcases hf a e q with ⟨q1, q3⟩ | q1
   · have := h.na a q1 q3; omega
   · omega
 · have := hr.lt e q; omega
 · have hw := h.below.size
   rcases hf a e q with ⟨q1, q3⟩ | q1
   · have := h.na a q1 q3; omega
   · omega
theorem fits_kl {S : St} {cwd : T} {L : List Rl} {target : T} {p : Pn} : fitsF S cwd L target p = match firstO (pat1 S cwd (knownsF L) target p) L with
   | some q => q
   | none => match firstO (suf1 S cwd (knownsF L) target (specialR L suffixes) p) L with
     | some q => q
     | none => p := rfl
theorem rplan_any (mac : Value) (A : Option Addr) (c : Nat) (M : List Rl) (g : Nat) (S : St) (cwd target : T) (w : World) (hok : RpOk mac A c M g S cwd w) (ht : target.length ≤ 6000000) (hsp : ∀ x, (specialR M x).length ≤ 100000) :
   Calls Tryz.prog 21 #[.agg #[mac, .slice A M.length c], .pointer (some ⟨g, 0, none⟩), .string (bs cwd), .string (bs target)] w (RPlanPost w (planF S cwd M target)) := by
 have HOK := hide (fun W (hb : Below w.heap.size w W) => hok.below hb)
 have HSP := hide (fun W => rspec18_any target W (by omega))
 have HSN := hide hsp
 obtain ⟨n, hn⟩ : ∃ n, M.length = n := ⟨_, rfl⟩
 have HN := hide hn
 have hn1 : (n : Int) ≤ 1000 := by have := hok.ml; omega
 have hR : planF S cwd M target = if specT target = true then noPn else if (gathersF (bs target) M).recipe = [] then fitsF S cwd M target (gathersF (bs target) M) else gathersF (bs target) M := rfl
 obtain ⟨R, hRR⟩ : ∃ R, planF S cwd M target = R := ⟨_, rfl⟩
 rw [hRR] at hR ⊢
 obtain ⟨sp, hsp⟩ : ∃ q, specT target = q := ⟨_, rfl⟩
 rw [hsp] at HSP hR
 have HR := hide hR
 rw [hn]
 have hb1 := (Below.refl w.heap.size w).alloc (Nat.le_refl _) (.cells #[mac, .slice A n c] 25)
 have hb2 := hb1.alloc (by simp) (.cells #[.slice none 0 0, .slice none 0 0, .string ⟨#[]⟩, .bool false] 49)
 have hb3 := hb2.alloc (by simp; omega) (.cells #[.slice none 0 0, .slice none 0 0, .string ⟨#[]⟩, .bool false] 49)
 have HPI := hide (show PI w w.heap.size (w.heap.size + 1) (w.heap.size + 1 + 1) #[mac, .slice A n c] noPn none 0 none 0 (((w.alloc (.cells #[mac, .slice A n c] 25)).alloc (.cells #[.slice none 0 0, .slice none 0 0, .string ⟨#[]⟩, .bool false] 49)).alloc (.cells #[.slice none 0 0, .slice none 0 0, .string ⟨#[]⟩, .bool false] 49)) from by
   have z1 := heapNew w (.cells #[mac, .slice A n c] 25)
   have z2 := heapNew (w.alloc (.cells #[mac, .slice A n c] 25)) (.cells #[.slice none 0 0, .slice none 0 0, .string ⟨#[]⟩, .bool false] 49)
   have z3 := heapNew ((w.alloc (.cells #[mac, .slice A n c] 25)).alloc (.cells #[.slice none 0 0, .slice none 0 0, .string ⟨#[]⟩, .bool false] 49)) (.cells #[.slice none 0 0, .slice none 0 0, .string ⟨#[]⟩, .bool false] 49)
   simp only [World.size_alloc] at z2 z3
   exact ⟨hb3, ((Below.heap_alloc _ _ _ (by simp <;> omega)).trans (Below.heap_alloc _ _ _ (by simp))).trans z1, (Below.heap_alloc _ _ _ (by simp)).trans z2, z3, SR.nil _ _, SR.nil _ _, fun a e => (by cases e), fun a e => (by cases e), Nat.le_refl _, by omega, by omega⟩)
 obtain ⟨g8, hg8⟩ : ∃ k, w.heap.size + 1 = k := ⟨_, rfl⟩
 obtain ⟨gp, hgp⟩ : ∃ k, g8 + 1 = k := ⟨_, rfl⟩
 obtain ⟨W0, hW0⟩ : ∃ W, (((w.alloc (.cells #[mac, .slice A n c] 25)).alloc (.cells #[.slice none 0 0, .slice none 0 0, .string ⟨#[]⟩, .bool false] 49)).alloc (.cells #[.slice none 0 0, .slice none 0 0, .string ⟨#[]⟩, .bool false] 49)) = W := ⟨_, rfl⟩
 rw [hW0] at HPI
 obtain ⟨mk, hmk⟩ : ∃ x, (#[mac, .slice A n c] : Array Value) = x := ⟨_, rfl⟩
 rw [hmk] at HPI
 have HMK := hide hmk
 clear hmk
 clear hok hn hR hRR hsp hb1 hb2 hb3
 go_enter Tryz.func21, Tryz.ntmps21
 go_wp2_with fail
 refine (HSP.out _).mono ?_
 rintro e w' ⟨rfl, rfl⟩
 obtain ⟨q0, hq0⟩ : ∃ q, noPn = q := ⟨_, rfl⟩
 rw [hq0, hg8, hgp] at HPI
 have HQ0 := hide hq0
 have HGP := hide hgp
 have HG8 := hide hg8
 clear hW0 hq0 hgp hg8
 cases sp with
 | true =>
   have HE := hide (HR.out.trans (if_pos rfl))
   obtain ⟨⟨m0, m1, m2, m3⟩, ⟨q1, q2, q3, q4, q5, q6, q7, q8⟩, hgf, hpo⟩ := PI.fin HPI.out
   have HGF := hide hgf
   have HPO := hide hpo
   clear hgf hpo
   go_wp2
   refine bodyPost_ret (ret_rplan HGF.out rfl) rfl ?_
   rw [HE.out, HQ0.out]
   exact HPO.out
 | false =>
 have HR2 := hide (HR.out.trans (if_neg (by simp)))
 go_wp2
 go_loopw [10, 11, 12] (fun v10 _ _ wr => ∃ (k : Nat) (A2 : Option Addr) (c2 : Nat) (rA : Option Addr) (rc : Nat), v10 = .int .i64 k ∧ k ≤ n ∧ PI w w.heap.size g8 gp mk (gathersF (bs target) (M.take k)) A2 c2 rA rc wr) (fun v10 _ _ _ => n - (intOf v10).toNat)
 case atStart => exact ⟨0, none, 0, none, 0, rfl, by omega, by rw [show gathersF (bs target) (M.take 0) = q0 from HQ0.out]; exact HPI.out⟩
 case round =>
   obtain ⟨wo, hwo⟩ : ∃ Z, Z = wr := ⟨_, rfl⟩
   subst hwo
   obtain ⟨k, Ax, cx, rA, rc, rfl, hk, hpi⟩ := hrel
   have HP := hide hpi
   have hmm1 : wo.cell? ⟨w.heap.size, 1, none⟩ = some (.slice A n c) := cellOf' hpi.mk_ (j := 1) (by rw [← HMK.out]; rfl)
   have HBW := hide hpi.below
   clear hpi
   by_cases hlt : k < n
   · obtain ⟨r, hr⟩ : ∃ r, M[k]? = some r := ⟨M[k]'(by have := HN.out; omega), gE _⟩
     obtain ⟨⟨ta, tc, tl⟩, ⟨na, nc, nl⟩, ⟨ra, rcc, rl⟩⟩ := r
     have hokw := HOK.out wo HBW.out
     obtain ⟨gz, oz, rfl, hgz, hc⟩ := hokw.rl.1 k _ hr
     have HRK0 := hide ((HOK.out w (Below.refl _ _)).rl.2 _ (List.mem_of_getElem? hr))
     have HRK := hide (hokw.rl.2 _ (List.mem_of_getElem? hr))
     have htz := hokw.tz _ (List.mem_of_getElem? hr)
     have c0 : wo.cell? ⟨gz, oz + k * 3, none⟩ = some (.slice ta tl.length tc) := by have := hc 0 _ rfl; simpa [sv] using this
     have c1 : wo.cell? ⟨gz, oz + k * 3 + 1, none⟩ = some (.slice na nl.length nc) := hc 1 _ rfl
     have c2 : wo.cell? ⟨gz, oz + k * 3 + 2, none⟩ = some (.slice ra rl.length rcc) := hc 2 _ rfl
     have b1 : (k : Int) < (n : Int) := by omega
     have HTK := hide (gathers_take (target := bs target) hr)
     obtain ⟨q, hq⟩ : ∃ q, gathersF (bs target) (M.take k) = q := ⟨_, rfl⟩
     have hql0 := gathers_len (t := bs target) M k
     have hsl0 := special_len_take M (bs target) k
     have hql := gathers_len (t := bs target) M (k + 1)
     have hsl := special_len_take M (bs target) (k + 1)
     have hsn := HSN.out (bs target)
     rw [HTK.out, hq] at hql
     rw [hq] at hql0
     rw [hq] at HTK HP
     have HPL := hide (fun Z (hb : Below wo.heap.size wo Z) => rplain_any ⟨(ta, tc, tl), (na, nc, nl), (ra, rcc, rl)⟩ Z (HRK.out.below hb) (fun s hs => Nat.le_trans (htz s hs) (by omega)))
     have HCT := hide (fun Z (hb : Below wo.heap.size wo Z) => rhas_any ta tc tl (bs target) Z (HRK.out.tg.below hb) (by have := HRK.out.t1; simp at this; omega))
     have hof : ofR (bs target) ⟨(ta, tc, tl), (na, nc, nl), (ra, rcc, rl)⟩ = (plainR tl && Lib.containsS tl (bs target)) := rfl
     have hga : gatherF (bs target) q ⟨(ta, tc, tl), (na, nc, nl), (ra, rcc, rl)⟩ = if ofR (bs target) ⟨(ta, tc, tl), (na, nc, nl), (ra, rcc, rl)⟩ = true then ⟨needsF q.needs nl, if 0 < rl.length then rl else q.recipe, q.stem, true⟩ else q := rfl
     rw [hof] at hga
     unfold sv at HPL
     simp only at HPL
     obtain ⟨p1, hp1⟩ : ∃ b, plainR tl = b := ⟨_, rfl⟩
     obtain ⟨p2, hp2⟩ : ∃ b, Lib.containsS tl (bs target) = b := ⟨_, rfl⟩
     rw [hp1] at HPL hga
     rw [hp2] at HCT hga
     obtain ⟨tn, htn⟩ : ∃ n, tl.length = n := ⟨_, rfl⟩
     obtain ⟨m, hm⟩ : ∃ n, nl.length = n := ⟨_, rfl⟩
     obtain ⟨u, hu⟩ : ∃ n, rl.length = n := ⟨_, rfl⟩
     rw [htn] at c0 HPL HCT
     rw [hm] at c1 HPL
     rw [hu] at c2 HPL hga
     have HGA := hide hga
     have HM := hide hm
     have HU := hide hu
     have HQ0L := hide (show q.needs.length ≤ 100000 by omega)
     have HQL := hide (show (gatherF (bs target) q ⟨(ta, tc, tl), (na, nc, nl), (ra, rcc, rl)⟩).needs.length ≤ 100000 by omega)
     have hB1 := (Below.refl wo.heap.size wo).alloc (Nat.le_refl _) (.cells #[.slice ta tn tc, .slice na m nc, .slice ra u rcc] 63)
     have hN1 := heapNew wo (.cells #[.slice ta tn tc, .slice na m nc, .slice ra u rcc] 63)
     obtain ⟨gr, hgr⟩ : ∃ k, wo.heap.size = k := ⟨_, rfl⟩
     rw [hgr] at hN1
     have HB1 := hide hB1
     have HN1 := hide hN1
     have HGR := hide hgr
     have hrr1 : nl.length ≤ 100000 := HRK.out.n1
     have hmi : (m : Int) ≤ 100000 := by omega
     have hui : (u : Int) ≤ 100000 := by have : rl.length ≤ 100000 := HRK.out.r1; omega
     clear hr hokw hc htz hof hga hp1 hp2 htn hm hu hB1 hN1 hq hql hsl hsn hql0 hsl0
     go_wp2_with fail
     refine (HPL.out _ HB1.out).mono ?_
     rintro e w1 ⟨rfl, hb1⟩
     have hnr1 := (hb1.block gr (Array.getElem?_eq_some_iff.1 HN1.out).1).trans HN1.out
     have HNR1 := hide hnr1
     have d0 := cellOf' hnr1 (j := 0) rfl
     have HBw := hide (below_up HB1.out hb1 HB1.out.size)
     have HP1 := hide (HP.out.step HBw.out)
     clear hb1 hnr1 c0 c1 c2
     cases p1 with
     | false =>
       have HE := hide (HTK.out.trans (HGA.out.trans (if_neg (by simp))))
       go_wp2
       go_roundw
       case rel => exact ⟨k + 1, Ax, cx, rA, rc, by go_num, by omega, by rw [HE.out]; exact HP1.out⟩
       case measure => simp [intOf]; omega
     | true =>
     go_wp2_with fail
     refine (HCT.out w1 HBw.out).mono ?_
     rintro e w' ⟨rfl, rfl⟩
     cases p2 with
     | false =>
       have HE := hide (HTK.out.trans (HGA.out.trans (if_neg (by simp))))
       go_wp2
       go_roundw
       case rel => exact ⟨k + 1, Ax, cx, rA, rc, by go_num, by omega, by rw [HE.out]; exact HP1.out⟩
       case measure => simp [intOf]; omega
     | true =>
     have HE := hide (HTK.out.trans (HGA.out.trans (if_pos rfl)))
     have hql2 := HQL.out
     rw [HGA.out, if_pos (by rfl)] at hql2
     have HQ2 := hide (show (needsF q.needs nl).length ≤ 100000 from hql2)
     have hp1 := HP1.out.plan
     have n3 := cellOf hp1 (j := 3) rfl
     have f3 := freeOf hp1 3
     have hgrp : gp < gr := by
       have := (Array.getElem?_eq_some_iff.1 HP.out.plan).1
       have := HGR.out
       omega
     have HP2 := hide (HP1.out.put (q' := ⟨q.needs, q.recipe, q.stem, true⟩) (j := 3) (v := .bool true) (by rw [heapSet hp1]; rfl) HP1.out.needs HP1.out.rec_ HP1.out.na HP1.out.ra)
     have HNR2 := hide (((objKp (w := w1) (g := gp) (j := 3) (v := .bool true)).block gr (Array.getElem?_eq_some_iff.1 HNR1.out).1 (by omega)).trans HNR1.out)
     clear hp1 hql2 d0
     go_wp2
     obtain ⟨w2, hw2⟩ : ∃ W, w1.setCell ⟨gp, 3, none⟩ (.bool true) = W := ⟨_, rfl⟩
     rw [hw2] at HP2 HNR2 ⊢
     clear hw2 n3 f3
     go_loopw [12] (fun v12 wi => ∃ (j : Nat) (A2 : Option Addr) (c2 : Nat), v12 = .int .i64 j ∧ j ≤ m ∧ PI w w.heap.size g8 gp mk ⟨needsF q.needs (nl.take j), q.recipe, q.stem, true⟩ A2 c2 rA rc wi ∧ wi.heap[gr]? = some (.cells #[.slice ta tn tc, .slice na m nc, .slice ra u rcc] 63)) (fun v12 _ => m - (intOf v12).toNat)
     case atStart => exact ⟨0, Ax, cx, rfl, by omega, HP2.out, HNR2.out⟩
     case round =>
       obtain ⟨wi, hwi⟩ : ∃ Z, Z = wr := ⟨_, rfl⟩
       subst hwi
       obtain ⟨j, Ay, cy, rfl, hj, hpi, hnr⟩ := hrel
       have HPJ := hide hpi
       have HNRJ := hide hnr
       have dr1 := cellOf' hnr (j := 1) rfl
       have dr2 := cellOf' hnr (j := 2) rfl
       have hgrl := (Array.getElem?_eq_some_iff.1 hnr).1
       by_cases hlt2 : j < m
       · obtain ⟨x, hx⟩ : ∃ x, nl[j]? = some x := ⟨nl[j]'(by have := HM.out; omega), gE _⟩
         obtain ⟨gs, o, rfl, hgs, hcx⟩ := HRK0.out.nd j x hx
         have hcw := (hpi.below.cell (p := ⟨gs, o + j, none⟩) hgs).trans hcx
         have HTJ := hide (needsF_take (l := q.needs) hx)
         have hgp := hpi.plan
         have hgl := (Array.getElem?_eq_some_iff.1 hgp).1
         have hns := hpi.needs
         dsimp only at hgp hns
         have hll := needsF_len (nl.take j) q.needs
         obtain ⟨L2, hL2⟩ : ∃ l, needsF q.needs (nl.take j) = l := ⟨_, rfl⟩
         rw [hL2] at HTJ hgp hns HPJ hll
         have hl2 : L2.length ≤ 40000000 := by
           have h1 := HQ0L.out
           have h2 := HM.out
           rw [List.length_take] at hll
           omega
         have HON := hide (fun Z (hb : Below wi.heap.size wi Z) => ronce_any Ay cy L2 x Z (hns.below hb) hl2)
         have HQ := hide (fun Z (hb : Below wi.heap.size wi Z) => show (fun Z => Z.cell? ⟨gr, 1, none⟩ = some (.slice (some ⟨gs, o, none⟩) m nc) ∧ Z.cell? ⟨gs, o + j, none⟩ = some (.string x)) Z from ⟨(hb.cell (p := ⟨gr, 1, none⟩) hgrl).trans dr1, (hb.cell (p := ⟨gs, o + j, none⟩) (World.block_lt_of_cell? _ _ hcw)).trans hcw⟩)
         have hgne : ¬ gs = gp := by have := hpi.o1; have := hpi.o2; have := hpi.o3; omega
         have hgne2 : ¬ gr = gp := by omega
         have hgd : wi.cell? ⟨gp, 0, none⟩ = some (.slice Ay L2.length cy) := cellOf hgp (j := 0) rfl
         have b2 : (j : Int) < (m : Int) := by omega
         clear hx hcx hcw hL2 hll dr2 hpi
         go_wp2_with fail
         refine wp_region_held_drew (S := (fun Z => Z.cell? ⟨gr, 1, none⟩ = some (.slice (some ⟨gs, o, none⟩) m nc) ∧ Z.cell? ⟨gs, o + j, none⟩ = some (.string x))) (by kernel_rfl) (HQ.out _ (Below.refl _ _).drew) (fun hHeld => ?_)
         refine tq (i := 0) (v := ?v0) rfl rfl (by kernel_rfl) (fun _ _ _ h => h) ?y0 (by assumption) ?r0
         case y0 => intro w h; (try dsimp only at h); go_simp; try with_reducible rfl
         try simp only [sA, sB, sC]
         refine tq (i := 2) (v := ?v2) rfl rfl (by kernel_rfl) (fun _ _ _ h => h) ?y2 (by assumption) ?r2
         case y2 => intro w h; (try dsimp only at h); go_simp; try with_reducible rfl
         try simp only [sA, sB, sC]
         refine tq (i := 3) (v := ?v3) rfl rfl (by kernel_rfl) (fun _ _ _ h => h) ?y3 (by assumption) ?r3
         case y3 => intro w h; (try dsimp only at h); go_simp; try with_reducible rfl
         try simp only [sA, sB, sC]
         refine tq (i := 4) (v := ?v4) rfl rfl (by kernel_rfl) (fun _ _ _ h => h) ?y4 (by assumption) ?r4
         case y4 => intro w h; (try dsimp only at h); go_simp; try with_reducible rfl
         try simp only [sA, sB, sC]
         refine tq (i := 5) (v := ?v5) rfl rfl (by kernel_rfl) (fun _ _ _ h => h) ?y5 (by assumption) ?r5
         case y5 => intro w h; (try dsimp only at h); go_simp; try with_reducible rfl
         try simp only [sA, sB, sC]
         refine tq (i := 6) (v := ?v6) rfl rfl (by kernel_rfl) (fun _ _ _ h => h) ?y6 (by assumption) ?r6
         case y6 => intro w h; (try dsimp only at h); go_simp; try with_reducible rfl
         try simp only [sA, sB, sC]
         refine rq (k := 1) rfl (by kernel_rfl) (by kernel_rfl) (fun K hK => ?_)
         go_simp
         refine hK.out _ _ (HQ.out _ (Below.refl _ _).drew) (fun _ => ?_)
         clear hK K
         try simp only [Act.put, sA, sB, sC]
         refine rq (k := 7) rfl (by kernel_rfl) (by kernel_rfl) (fun K hK => ?_)
         go_simp
         refine (HON.out _ (Below.refl _ _).drew).mono ?_
         rintro e w2 ⟨⟨A2, c2, rfl, hs2, hfr⟩, hb2⟩
         have hp2 := (hb2.block gp hgl).trans hgp
         have HP2x := hide (HPJ.out.step ((Below.refl wi.heap.size wi).drew.trans hb2))
         have HS2 := hide hs2
         have HFR := hide hfr
         have HB2 := hide ((Below.refl wi.heap.size wi).drew.trans hb2)
         have HQ3 := hide (show (fun Z => Z.cell? ⟨gr, 1, none⟩ = some (.slice (some ⟨gs, o, none⟩) m nc) ∧ Z.cell? ⟨gs, o + j, none⟩ = some (.string x)) (w2.setCell ⟨gp, 0, none⟩ (.slice A2 (needF L2 x).length c2)) from ⟨(objKp (j := 0) (v := .slice A2 (needF L2 x).length c2)).cell (HQ.out _ HB2.out).1 hgne2, (objKp (j := 0) (v := .slice A2 (needF L2 x).length c2)).cell (HQ.out _ HB2.out).2 hgne⟩)
         have hc2 := cellOf hp2 (j := 0) rfl
         have hf2 := freeOf hp2 0
         clear hb2 hp2 hs2 hfr
         refine hK.out _ _ (HQ.out _ HB2.out) (fun _ => ?_)
         clear hK K
         try simp only [Act.put, sA, sB, sC]
         refine tq (i := 8) (v := ?v8) rfl rfl (by kernel_rfl) (fun _ _ _ h => h) ?y8 (by assumption) ?r8
         case y8 => intro w h; (try dsimp only at h); go_simp; try with_reducible rfl
         try simp only [sA, sB, sC]
         refine rq (k := 9) rfl (by kernel_rfl) (by kernel_rfl) (fun K hK => ?_)
         go_simp
         refine hK.out _ _ HQ3.out (fun _ => ?_)
         clear hK K
         try simp only [Act.put, sA, sB, sC]
         refine wpAnyH_done (by kernel_rfl) ?_ _
         have hp3 := HP2x.out.plan
         have HP3 := hide (HP2x.out.put (q' := ⟨needF L2 x, q.recipe, q.stem, true⟩) (A' := A2) (c' := c2) (rA' := rA) (rc' := rc) (j := 0) (v := .slice A2 (needF L2 x).length c2) (by rw [heapSet hp3]; rfl) HS2.out HP2x.out.rec_ (fun a e h => by
           rcases HFR.out a e with ⟨q0, q1⟩ | q1
           · exact HPJ.out.na a q1 (fun hL => h (q0.trans hL))
           · have q2 : wi.heap.size ≤ a.block := q1
             omega) HP2x.out.ra)
         have HNR3 := hide (((objKp (w := w2) (g := gp) (j := 0) (v := .slice A2 (needF L2 x).length c2)).block gr (by have := HB2.out.size; omega) (by omega)).trans ((HB2.out.block gr hgrl).trans HNRJ.out))
         clear hp3 hc2 hf2
         go_wp2
         go_roundw
         case rel => exact ⟨j + 1, A2, c2, by go_num, by omega, by rw [HTJ.out]; exact HP3.out, HNR3.out⟩
         case measure => simp [intOf]; omega
       · obtain rfl : j = m := by omega
         have hte : nl.take j = nl := List.take_of_length_le (by have := HM.out; omega)
         rw [hte] at HPJ
         by_cases hu0 : 0 < u
         · have t1 : decide ((0 : Int) < (u : Int)) = true := by simp; omega
           have t1' : decide (0 < u) = true := by simpa using hu0
           have hE2 := HE.out
           rw [if_pos hu0] at hE2
           have HE2 := hide hE2
           have hp4 := HPJ.out.plan
           have n1 := cellOf hp4 (j := 1) rfl
           have f1 := freeOf hp4 1
           have hrs := HRK0.out.rc.below HPJ.out.below
           have HP4 := hide (HPJ.out.put (q' := ⟨needsF q.needs nl, rl, q.stem, true⟩) (A' := Ay) (c' := cy) (rA' := ra) (rc' := rcc) (j := 1) (v := .slice ra u rcc) (by rw [heapSet hp4]; rw [HU.out]; rfl) HPJ.out.needs hrs HPJ.out.na (fun a e h => HRK0.out.rc.lt e h))
           clear hu0 hE2 hp4 hrs hte hpi
           go_wp2
           go_roundw
           case rel => exact ⟨k + 1, Ay, cy, ra, rcc, by go_num, by omega, by rw [HE2.out]; exact HP4.out⟩
           case measure => simp [intOf]; omega
         · have t1 : decide ((0 : Int) < (u : Int)) = false := by simp; omega
           have t1' : decide (0 < u) = false := by simpa using hu0
           have hE2 := HE.out
           rw [if_neg hu0] at hE2
           have HE2 := hide hE2
           clear hu0 hE2 hte hpi
           go_wp2
           go_roundw
           case rel => exact ⟨k + 1, Ay, cy, rA, rc, by go_num, by omega, by rw [HE2.out]; exact HPJ.out⟩
           case measure => simp [intOf]; omega
   · obtain rfl : k = n := by omega
     have htf : M.take k = M := List.take_of_length_le (by have := HN.out; omega)
     rw [htf] at HP
     have hql := gathers_len (t := bs target) M k
     rw [htf] at hql
     have hsn := HSN.out (bs target)
     obtain ⟨q, hq⟩ : ∃ q, gathersF (bs target) M = q := ⟨_, rfl⟩
     have hR3 := HR2.out
     rw [hq] at HP hR3 hql
     have HQL := hide (show q.needs.length ≤ 100000 by omega)
     have HR3 := hide hR3
     have hp0 := HP.out.plan
     have hd1 : wo.cell? ⟨gp, 1, none⟩ = some (.slice rA q.recipe.length rc) := cellOf hp0 (j := 1) rfl
     clear hR3 hql hsn hq htf HR2 HR hp0
     by_cases hrc : q.recipe = []
     case neg =>
       have HE := hide (HR3.out.trans (if_neg hrc))
       have hpos : 0 < q.recipe.length := List.length_pos_iff.2 hrc
       have t1 : decide ((0 : Int) < (q.recipe.length : Int)) = true := by simp; omega
       have t1' : decide (0 < q.recipe.length) = true := by simpa using hpos
       obtain ⟨⟨m0, m1, m2, m3⟩, ⟨q1, q2, q3, q4, q5, q6, q7, q8⟩, hgf, hpo⟩ := PI.fin HP.out
       have HGF := hide hgf
       have HPO := hide hpo
       clear hgf hpo hrc
       go_wp2
       refine bodyPost_ret (ret_rplan HGF.out rfl) rfl ?_
       rw [HE.out]
       exact HPO.out
     have hr4 := HR3.out.trans (if_pos hrc)
     rw [fits_kl] at hr4
     have HR4 := hide hr4
     have h0 : q.recipe.length = 0 := by rw [hrc]; rfl
     have t1 : decide ((0 : Int) < (q.recipe.length : Int)) = false := by simp; omega
     have t1' : decide (0 < q.recipe.length) = false := by simp; omega
     clear hr4 hrc
     go_wp2
     go_loopw [13, 14, 15, 16, 17] (fun v13 _ _ _ _ wr => ∃ j : Nat, v13 = .int .i64 j ∧ j ≤ k ∧ Hid (firstO (pat1 S cwd (knownsF M) target q) (M.take j) = none) ∧ PI w w.heap.size g8 gp mk q Ax cx rA rc wr) (fun v13 _ _ _ _ _ => k - (intOf v13).toNat)
     case atStart => exact ⟨0, rfl, by omega, hide rfl, HP.out⟩
     case round =>
       obtain ⟨wi, hwi⟩ : ∃ Z, Z = wr := ⟨_, rfl⟩
       subst hwi
       obtain ⟨j, rfl, hj, HFN, hpi⟩ := hrel
       have HPJ := hide hpi
       have hmm0 : wi.cell? ⟨w.heap.size, 0, none⟩ = some mac := cellOf' hpi.mk_ (j := 0) (by rw [← HMK.out]; rfl)
       have hmm1 : wi.cell? ⟨w.heap.size, 1, none⟩ = some (.slice A k c) := cellOf' hpi.mk_ (j := 1) (by rw [← HMK.out]; rfl)
       have HBJ := hide hpi.below
       clear hpi
       by_cases hlt : j < k
       · obtain ⟨r, hr⟩ : ∃ r, M[j]? = some r := ⟨M[j]'(by have := HN.out; omega), gE _⟩
         have hmem := List.mem_of_getElem? hr
         have hokw := HOK.out wi HBJ.out
         have HRK0 := hide ((HOK.out w (Below.refl _ _)).rl.2 _ hmem)
         have HFT := hide (fun Z (hb : Below w.heap.size w Z) => rfits_any mac A c M g S cwd target r Z (HOK.out Z hb) ((HOK.out Z hb).rl.2 _ hmem) hmem ht)
         have HPL := hide (fun Z (hb : Below w.heap.size w Z) => rplain_any r Z ((HOK.out Z hb).rl.2 _ hmem) (fun s hs => Nat.le_trans ((HOK.out Z hb).tz _ hmem s hs) (by omega)))
         have HX := hide hr
         have hst := fun (h : pat1 S cwd (knownsF M) target q r = none) => firstO_step (pat1 S cwd (knownsF M) target q) M j r HFN.out hr h
         have hfo := fun b (h : pat1 S cwd (knownsF M) target q r = some b) => firstO_found (pat1 S cwd (knownsF M) target q) M j r b HFN.out hr h
         have hpa : pat1 S cwd (knownsF M) target q r = if plainR r.tg.2.2 = true then none else if r.rc.2.2.length = 0 then none else (fitsO S cwd (knownsF M) target r).map fun x => takesF q x.1 r.rc.2.2 x.2 := by
           unfold pat1
           rw [patO_fits]
         obtain ⟨gz, oz, eA, hgz, hc⟩ := hokw.rl.1 j _ hr
         obtain ⟨⟨ta, tc, tl⟩, ⟨na, nc, nl⟩, ⟨ra, rcc, rl⟩⟩ := r
         have c0 : wi.cell? ⟨gz, oz + j * 3, none⟩ = some (.slice ta tl.length tc) := by have := hc 0 _ rfl; simpa [sv] using this
         have c1 : wi.cell? ⟨gz, oz + j * 3 + 1, none⟩ = some (.slice na nl.length nc) := hc 1 _ rfl
         have c2 : wi.cell? ⟨gz, oz + j * 3 + 2, none⟩ = some (.slice ra rl.length rcc) := hc 2 _ rfl
         have b1 : (j : Int) < (k : Int) := by omega
         obtain ⟨FQ, hFQ⟩ : ∃ x, fitsO S cwd (knownsF M) target ⟨(ta, tc, tl), (na, nc, nl), (ra, rcc, rl)⟩ = x := ⟨_, rfl⟩
         have hfl : ∀ x, FQ = some x → x.1.length ≤ 100000 := fun x hx => by
           rw [← hFQ] at hx
           unfold fitsO at hx
           dsimp only at hx
           split at hx
           · cases hx
           · split at hx
             · injection hx with hx
               rw [← hx]
               unfold fillsF
               rw [List.length_map]
               exact HRK0.out.n1
             · cases hx
         rw [hFQ] at HFT hpa
         unfold sv at HPL HFT
         simp only at HPL HFT
         have HFL := hide hfl
         obtain ⟨p1, hp1⟩ : ∃ b, plainR tl = b := ⟨_, rfl⟩
         rw [hp1] at HPL
         dsimp only at hpa
         rw [hp1] at hpa
         obtain ⟨tn, htn⟩ : ∃ n, tl.length = n := ⟨_, rfl⟩
         obtain ⟨m, hm⟩ : ∃ n, nl.length = n := ⟨_, rfl⟩
         obtain ⟨u, hu⟩ : ∃ n, rl.length = n := ⟨_, rfl⟩
         have hnk := HN.out
         rw [htn] at c0 HPL HFT
         rw [hm] at c1 HPL HFT
         rw [hu] at c2 HPL hpa HFT
         rw [hnk] at HFT
         have HU := hide hu
         have HPA := hide hpa
         have HST := hide hst
         have HFO := hide hfo
         have hB1 := (Below.refl wi.heap.size wi).alloc (Nat.le_refl _) (.cells #[.slice ta tn tc, .slice na m nc, .slice ra u rcc] 63)
         have hN1 := heapNew wi (.cells #[.slice ta tn tc, .slice na m nc, .slice ra u rcc] 63)
         obtain ⟨gr, hgr⟩ : ∃ k, wi.heap.size = k := ⟨_, rfl⟩
         rw [hgr] at hN1
         have HB1 := hide hB1
         have HN1 := hide hN1
         have HPW := hide (HPJ.out.step hB1)
         have hmx0 := (hB1.cell (p := ⟨w.heap.size, 0, none⟩) (World.block_lt_of_cell? _ _ hmm0)).trans hmm0
         have hmx1 := (hB1.cell (p := ⟨w.heap.size, 1, none⟩) (World.block_lt_of_cell? _ _ hmm1)).trans hmm1
         rw [eA] at hmm1 hmx1 HFT ⊢
         clear hr hmem hokw hc hFQ hfl hp1 htn hm hu hB1 hN1 hst hfo hpa hnk
         go_wp2_with fail
         refine (HFT.out _ HPW.out.below).mono ?_
         rintro e w1 ⟨hb1, fA, fc, fn, st, rfl, hsome⟩
         have HP1 := hide (HPW.out.step hb1)
         have hnr1 := (hb1.block gr (Array.getElem?_eq_some_iff.1 HN1.out).1).trans HN1.out
         have hgl1 := (Array.getElem?_eq_some_iff.1 hnr1).1
         have HNR1 := hide hnr1
         have d0 := cellOf' hnr1 (j := 0) rfl
         have d1 := cellOf' hnr1 (j := 1) rfl
         have d2 := cellOf' hnr1 (j := 2) rfl
         have HSM := hide hsome
         obtain ⟨okb, hokb⟩ : ∃ b, FQ.isSome = b := ⟨_, rfl⟩
         rw [hokb]
         have HOKB := hide hokb
         clear hokb hb1 hnr1 hsome hmm0 hmm1 hmx0 hmx1 c0 c1 c2
         go_wp2_with fail
         refine (HPL.out w1 HP1.out.below).mono ?_
         rintro e w2 ⟨rfl, hb2⟩
         have HP2 := hide (HP1.out.step hb2)
         have hnr2 := (hb2.block gr hgl1).trans HNR1.out
         have d22 := cellOf' hnr2 (j := 2) rfl
         have HB2 := hide hb2
         clear hb2 hnr2 d0 d1 d2
         cases p1 with
         | true =>
           have HE := hide (HST.out (HPA.out.trans (if_pos rfl)))
           go_wp2
           go_roundw
           case rel => exact ⟨j + 1, by go_num, by omega, HE, HP2.out⟩
           case measure => simp [intOf]; omega
         | false =>
         by_cases hu0 : u = 0
         · have t2 : ((u : Int) == 0) = true := by simp only [beq_iff_eq]; omega
           have HE := hide (HST.out (HPA.out.trans ((if_neg (by simp)).trans (if_pos hu0))))
           clear hu0
           go_wp2
           go_roundw
           case rel => exact ⟨j + 1, by go_num, by omega, HE, HP2.out⟩
           case measure => simp [intOf]; omega
         have t2 : ((u : Int) == 0) = false := by simp only [beq_eq_false_iff_ne]; omega
         have hpb := HPA.out.trans ((if_neg (by simp)).trans (if_neg hu0))
         cases okb with
         | false =>
           have hq0 : FQ = none := by have := HOKB.out; cases FQ with | none => rfl | some x => cases this
           rw [hq0] at hpb
           have HE := hide (HST.out hpb)
           clear hu0 hpb
           go_wp2
           go_roundw
           case rel => exact ⟨j + 1, by go_num, by omega, HE, HP2.out⟩
           case measure => simp [intOf]; omega
         | true =>
           obtain ⟨⟨ns, st'⟩, hfq⟩ : ∃ fq, FQ = some fq := by have := HOKB.out; cases FQ with | none => cases this | some x => exact ⟨x, rfl⟩
           subst hfq
           obtain ⟨hst1, hfn1, hsr1⟩ := HSM.out _ rfl
           dsimp only at hst1 hfn1 hsr1
           subst hst1
           have hfb := HFO.out _ hpb
           have hrr := HR4.out
           rw [hfb] at hrr
           have HE := hide (show R = takesF q ns rl st' from hrr)
           have hnl : ns.length ≤ 100000 := HFL.out _ rfl
           have HWI := hide (rwith_any q Ax cx rA rc fA fc ns ra rcc rl st' w2 HP2.out.needs (hsr1.below HB2.out) (HRK0.out.rc.below HP2.out.below) (by have := HQL.out; omega))
           rw [HU.out, ← hfn1, h0] at HWI
           have hpl2 := HP2.out.plan
           have m0 := cellOf hpl2 (j := 0) rfl
           have m1 := cellOf hpl2 (j := 1) rfl
           have m2 := cellOf hpl2 (j := 2) rfl
           have m3 := cellOf hpl2 (j := 3) rfl
           unfold WithPost at HWI
           clear hu0 hpb hfb hrr hpl2 hsr1 hfn1
           go_wp2_with fail
           refine HWI.out.mono ?_
           rintro e w3 ⟨A3, c3, rfl, hs3, hf3, hb3⟩
           obtain ⟨⟨q1, q2, q3, q4, q5, q6, q7, q8⟩, hgf, hpo⟩ := HP2.out.withF (c2 := c3) (rc2 := rcc) hs3 hf3 hb3 (show SR w ra (takesF q ns rl st').recipe from HRK0.out.rc)
           have HGF := hide hgf
           have HPO := hide hpo
           clear hgf hpo hs3 hf3 hb3
           go_wp2
           refine bodyPost_ret (ret_rplan HGF.out rfl) rfl ?_
           rw [HE.out]
           exact HPO.out
       · obtain rfl : j = k := by omega
         have htf : M.take j = M := List.take_of_length_le (by have := HN.out; omega)
         have hfn := HFN.out
         rw [htf] at hfn
         have hr5 := HR4.out
         rw [hfn] at hr5
         have HR5 := hide hr5
         have hokw := HOK.out wi HBJ.out
         have HSS := hide (rspecial_any mac A c M suffixes wi hokw.rl hokw.ml hokw.tgz (fun x => by
           have := special_len_take M suffixes x
           have := HSN.out suffixes
           omega))
         have HLZ := hide (show ∀ s ∈ specialR M suffixes, s.size ≤ 10000 from fun s hs => by
           obtain ⟨r, hr, hx⟩ := mem_special hs
           exact hokw.nz r hr s hx)
         have HLL := hide (HSN.out suffixes)
         obtain ⟨sl, hsl⟩ : ∃ l, specialR M suffixes = l := ⟨_, rfl⟩
         rw [hsl] at HSS HLZ HLL HR5
         rw [HN.out] at HSS
         unfold suffixes at HSS
         clear htf hfn hr5 hokw hsl HFN
         go_wp2_with fail
         refine HSS.out.mono ?_
         rintro e ws ⟨⟨v, rfl, ho⟩, hbs⟩
         obtain ⟨lA, lc, rfl, _, hls, _⟩ := ho.slice
         have HPS := hide (HPJ.out.step hbs)
         have HLS := hide hls
         obtain ⟨ln, hln⟩ : ∃ n, sl.length = n := ⟨_, rfl⟩
         rw [hln]
         have HLN := hide hln
         clear ho hbs hls hln hmm0 hmm1
         go_wp2
         go_loopw [19, 20, 21, 22, 23] (fun v19 _ _ _ _ wr => ∃ i : Nat, v19 = .int .i64 i ∧ i ≤ j ∧ Hid (firstO (suf1 S cwd (knownsF M) target sl q) (M.take i) = none) ∧ PI w w.heap.size g8 gp mk q Ax cx rA rc wr ∧ SR wr lA sl) (fun v19 _ _ _ _ _ => j - (intOf v19).toNat)
         case atStart => exact ⟨0, rfl, by omega, hide rfl, HPS.out, HLS.out⟩
         case round =>
           obtain ⟨wz, hwz⟩ : ∃ Z, Z = wr := ⟨_, rfl⟩
           subst hwz
           obtain ⟨i, rfl, hi, HFN, hpi, hsl⟩ := hrel
           have HPI2 := hide hpi
           have HSL := hide hsl
           have hmm0 : wz.cell? ⟨w.heap.size, 0, none⟩ = some mac := cellOf' hpi.mk_ (j := 0) (by rw [← HMK.out]; rfl)
           have hmm1 : wz.cell? ⟨w.heap.size, 1, none⟩ = some (.slice A j c) := cellOf' hpi.mk_ (j := 1) (by rw [← HMK.out]; rfl)
           have HBI := hide hpi.below
           clear hpi hsl
           by_cases hlt : i < j
           · obtain ⟨r, hr⟩ : ∃ r, M[i]? = some r := ⟨M[i]'(by have := HN.out; omega), gE _⟩
             have hmem := List.mem_of_getElem? hr
             have hokw := HOK.out wz HBI.out
             have HRK0 := hide ((HOK.out w (Below.refl _ _)).rl.2 _ hmem)
             have HFT := hide (fun Z (hb : Below w.heap.size w Z) (hb2 : Below wz.heap.size wz Z) => rsuffix_any mac A c M g S cwd target r lA lc sl Z (HOK.out Z hb) ((HOK.out Z hb).rl.2 _ hmem) hmem ht (HSL.out.below hb2) HLL.out HLZ.out)
             have hst := fun (h : suf1 S cwd (knownsF M) target sl q r = none) => firstO_step (suf1 S cwd (knownsF M) target sl q) M i r HFN.out hr h
             have hfo := fun b (h : suf1 S cwd (knownsF M) target sl q r = some b) => firstO_found (suf1 S cwd (knownsF M) target sl q) M i r b HFN.out hr h
             have hpa : suf1 S cwd (knownsF M) target sl q r = (sufF S cwd (knownsF M) target sl r).map fun x => takesF q [bs x.1] r.rc.2.2 x.2 := suf1_eq _ _ _ _ _ _ _
             obtain ⟨gz, oz, eA, hgz, hc⟩ := hokw.rl.1 i _ hr
             obtain ⟨⟨ta, tc, tl⟩, ⟨na, nc, nl⟩, ⟨ra, rcc, rl⟩⟩ := r
             have c0 : wz.cell? ⟨gz, oz + i * 3, none⟩ = some (.slice ta tl.length tc) := by have := hc 0 _ rfl; simpa [sv] using this
             have c1 : wz.cell? ⟨gz, oz + i * 3 + 1, none⟩ = some (.slice na nl.length nc) := hc 1 _ rfl
             have c2 : wz.cell? ⟨gz, oz + i * 3 + 2, none⟩ = some (.slice ra rl.length rcc) := hc 2 _ rfl
             have b1 : (i : Int) < (j : Int) := by omega
             obtain ⟨FQ, hFQ⟩ : ∃ x, sufF S cwd (knownsF M) target sl ⟨(ta, tc, tl), (na, nc, nl), (ra, rcc, rl)⟩ = x := ⟨_, rfl⟩
             rw [hFQ] at HFT hpa
             unfold sv at HFT
             simp only at HFT
             dsimp only at hpa
             obtain ⟨tn, htn⟩ : ∃ n, tl.length = n := ⟨_, rfl⟩
             obtain ⟨m, hm⟩ : ∃ n, nl.length = n := ⟨_, rfl⟩
             obtain ⟨u, hu⟩ : ∃ n, rl.length = n := ⟨_, rfl⟩
             have hnk := HN.out
             rw [htn] at c0 HFT
             rw [hm] at c1 HFT
             rw [hu] at c2 HFT
             rw [hnk, HLN.out] at HFT
             have HU := hide hu
             have HPA := hide hpa
             have HST := hide hst
             have HFO := hide hfo
             have hB1 := (Below.refl wz.heap.size wz).alloc (Nat.le_refl _) (.cells #[.slice ta tn tc, .slice na m nc, .slice ra u rcc] 63)
             have hN1 := heapNew wz (.cells #[.slice ta tn tc, .slice na m nc, .slice ra u rcc] 63)
             obtain ⟨gr, hgr⟩ : ∃ k, wz.heap.size = k := ⟨_, rfl⟩
             rw [hgr] at hN1
             have HB1 := hide hB1
             have HN1 := hide hN1
             have HPW := hide (HPI2.out.step hB1)
             have hmx0 := (hB1.cell (p := ⟨w.heap.size, 0, none⟩) (World.block_lt_of_cell? _ _ hmm0)).trans hmm0
             have hmx1 := (hB1.cell (p := ⟨w.heap.size, 1, none⟩) (World.block_lt_of_cell? _ _ hmm1)).trans hmm1
             rw [eA] at hmm1 hmx1 HFT ⊢
             clear hr hmem hokw hc hFQ htn hm hu hB1 hN1 hst hfo hpa hnk
             go_wp2_with fail
             refine (HFT.out _ HPW.out.below HB1.out).mono ?_
             rintro e w1 ⟨hb1, fa, fb, rfl, hsome⟩
             have HP1 := hide (HPW.out.step hb1)
             have HSL1 := hide ((HSL.out.below HB1.out).below hb1)
             have hnr1 := (hb1.block gr (Array.getElem?_eq_some_iff.1 HN1.out).1).trans HN1.out
             have d2 := cellOf' hnr1 (j := 2) rfl
             have HSM := hide hsome
             obtain ⟨okb, hokb⟩ : ∃ b, FQ.isSome = b := ⟨_, rfl⟩
             rw [hokb]
             have HOKB := hide hokb
             clear hokb hb1 hsome hmm0 hmm1 hmx0 hmx1 c0 c1 c2
             cases okb with
             | false =>
               have hq0 : FQ = none := by have := HOKB.out; cases FQ with | none => rfl | some x => cases this
               have hpb := HPA.out
               rw [hq0] at hpb
               have HE := hide (HST.out hpb)
               clear hpb d2 hnr1
               go_wp2
               go_roundw
               case rel => exact ⟨i + 1, by go_num, by omega, HE, HP1.out, HSL1.out⟩
               case measure => simp [intOf]; omega
             | true =>
               obtain ⟨⟨nd, st'⟩, hfq⟩ : ∃ fq, FQ = some fq := by have := HOKB.out; cases FQ with | none => cases this | some x => exact ⟨x, rfl⟩
               subst hfq
               obtain ⟨hst1, hst2⟩ := HSM.out _ rfl
               dsimp only at hst1 hst2
               subst hst1 hst2
               have hfb := HFO.out _ HPA.out
               have hrr := HR5.out
               rw [hfb] at hrr
               have HE := hide (show R = takesF q [bs nd] rl st' from hrr)
               have hba := (Below.refl w1.heap.size w1).alloc (Nat.le_refl _) (.cells #[.string (bs nd)] 9)
               have HPX := hide (HP1.out.step hba)
               have d3 := cellOf' ((hba.block gr (Array.getElem?_eq_some_iff.1 hnr1).1).trans hnr1) (j := 2) rfl
               have HWI := hide (rwith_any q Ax cx rA rc (some ⟨w1.heap.size, 0, none⟩) 1 [bs nd] ra rcc rl st' _ HPX.out.needs (sr_new w1 (bs nd)) (HRK0.out.rc.below HPX.out.below) (by have := HQL.out; simp; omega))
               rw [HU.out, h0, List.length_singleton] at HWI
               have hpl1 := HP1.out.plan
               have m0 := cellOf hpl1 (j := 0) rfl
               have m1 := cellOf hpl1 (j := 1) rfl
               have m2 := cellOf hpl1 (j := 2) rfl
               have m3 := cellOf hpl1 (j := 3) rfl
               unfold WithPost at HWI
               clear hfb hrr hpl1 hba hnr1
               go_wp2_with fail
               refine HWI.out.mono ?_
               rintro e w3 ⟨A3, c3, rfl, hs3, hf3, hb3⟩
               obtain ⟨⟨q1, q2, q3, q4, q5, q6, q7, q8⟩, hgf, hpo⟩ := HPX.out.withF (c2 := c3) (rc2 := rcc) hs3 hf3 hb3 (show SR w ra (takesF q [bs nd] rl st').recipe from HRK0.out.rc)
               have HGF := hide hgf
               have HPO := hide hpo
               clear hgf hpo hs3 hf3 hb3
               go_wp2
               refine bodyPost_ret (ret_rplan HGF.out rfl) rfl ?_
               rw [HE.out]
               exact HPO.out
           · obtain rfl : i = j := by omega
             have htf : M.take i = M := List.take_of_length_le (by have := HN.out; omega)
             have hfn := HFN.out
             rw [htf] at hfn
             have hr6 := HR5.out
             rw [hfn] at hr6
             have HE := hide (show R = q from hr6)
             obtain ⟨⟨m0, m1, m2, m3⟩, ⟨q1, q2, q3, q4, q5, q6, q7, q8⟩, hgf, hpo⟩ := PI.fin HPI2.out
             have HGF := hide hgf
             have HPO := hide hpo
             clear hgf hpo htf hfn hr6 h0
             go_wp2
             refine bodyPost_ret (ret_rplan HGF.out rfl) rfl ?_
             rw [HE.out]
             exact HPO.out
end
section
open Go.RowKit
theorem OI.app {w0 w : World} {ty : TypeId} {g : Nat} {cs : List Cl} {T : Nat → Prop} (h : OI w0 ty g cs T w) {j : Nat} {L : List ByteArray} (hj : cs[j]? = some (Cl.s L)) {A : Option Addr} {len c : Nat} (hc : w.cell? ⟨g, j, none⟩ = some (.slice A len c)) (x : ByteArray) (hl : L.length ≤ 1000000) :
   ∃ A4 c4 w4, (Builtin.append_ #[39, 39] 39 #[.slice A len c, .slice (some ⟨w.heap.size, 0, none⟩) 1 1]).run Tryz.prog (w.alloc (.cells #[.string x] 9)) = .ok (.slice A4 (len + 1) c4) w4 ∧
     w4.cell? ⟨g, j, none⟩ = some (.slice A len c) ∧ w4.frozen? ⟨g, j, none⟩ = false ∧ OIP w0 ty g (cs.set j (Cl.s (L ++ [x]))) T w (w4.setCell ⟨g, j, none⟩ (.slice A4 (len + 1) c4)) := by
 obtain ⟨u, h1, h2, h3⟩ := h.cellR hj
 rw [hc] at h1
 obtain rfl := Option.some.inj h1
 have h4 : OwnS w w0.heap.size (.slice A len c) L := h2
 obtain ⟨A', c', e, _, _, _⟩ := h4.slice
 injection e with e1 e2 e3
 have hba : Below w.heap.size w (w.alloc (.cells #[.string x] 9)) := (Below.refl _ _).alloc (Nat.le_refl _) _
 have H1 := h.step hba
 have hcw : (w.alloc (.cells #[.string x] 9)).cell? ⟨g, j, none⟩ = some (.slice A len c) := (hba.cell (p := ⟨g, j, none⟩) h.lt).trans hc
 have hbs := h.below.size
 obtain ⟨v4, w4, r4, o4, g4, b4⟩ := run_appS (c := 1) (OwnS.alloc h4 (.cells #[.string x] 9)) (sr_new w x) (by simp; omega) (by simp; omega)
 obtain ⟨A4, c4, rfl, _, _, _⟩ := o4.slice
 have hln : (L ++ [x]).length = len + 1 := by rw [List.length_append, List.length_singleton, e2]
 have hP := H1.setR hj hcw o4 g4 (fun k hk => by
   rcases b4 with q | q
   · exact .inl (q ▸ hk)
   · rw [q] at hk
     injection hk with hk
     exact .inr (by omega))
 have hgl : g < (w.alloc (.cells #[.string x] 9)).heap.size := H1.lt
 have hgb : w4.heap[g]? = (w.alloc (.cells #[.string x] 9)).heap[g]? := g4.block g hgl (fun q => (h3 g q.symm).2 rfl)
 rw [hln] at r4 hP
 refine ⟨A4, c4, w4, r4, (World.cell?_of_block hgb).trans hcw, (World.frozen?_of_block hgb).trans (H1.free j), ?_⟩
 have : Cl.r 9 1 (len + 1) (strVals (L ++ [x])) = Cl.s (L ++ [x]) := by unfold Cl.s; rw [hln]
 rw [← this]
 exact hP.after hba
theorem OwnS.init {w : World} {b : Nat} {A : Option Addr} {n c : Nat} {L : List ByteArray} {x : ByteArray} (h : OwnS w b (.slice A n c) (L ++ [x])) : OwnS w b (.slice A L.length c) L ∧ L.length ≤ c ∧ ∃ g, A = some ⟨g, 0, none⟩ := by
 rcases h.2 with ⟨_, hn⟩ | ⟨g, cap, cur, e, hb, hh, hc, hm, hs, ht⟩
 · simp at hn
 · injection e with e1 e2 e3
   subst e1 e3
   rw [List.length_append, List.length_singleton] at hc ht
   refine ⟨⟨by simp [strVals], .inr ⟨g, c, cur, rfl, hb, hh, by omega, hm, hs, ?_⟩⟩, by omega, g, rfl⟩
   have : List.take (L.length * 1) (List.take ((L.length + 1) * 1) cur.toList) = List.take (L.length * 1) (strVals (L ++ [x])) := by rw [ht]
   rw [List.take_take, Nat.min_eq_left (by omega)] at this
   rw [this]
   simp [strVals]
end
end Go.Proofs.YtaajofojbhdgaaaGreatDoor
