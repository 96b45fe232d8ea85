/- Walk of the law FindSuffixes. -/
import Derived.Test.YtmblmenafplccaaDoorMkSep
import Derived.Test.YtmblmenafplccaaDoorFindMathB
import Derived.SizedLaws
namespace Go.Proofs.YtmblmenafplccaaDoor
open Go.RowKit Go.Deep Go.Maps Ln Pth Vf
attribute [local go_sem] bt_eq

theorem empty_bs {l : Ln.T} : (bs l).toList.isEmpty = decide (l = []) := by
  rw [bs_toList]
  cases l <;> simp
theorem sr_two' {W : World} {g : Nat} {s t : ByteArray} (h : W.heap[g]? = some (.cells #[.string s, .string t] 9)) : SR W (some ⟨g, 0, none⟩) [s, t] := by
  intro k x hk
  match k, hk with
  | 0, hk =>
    simp at hk
    subst hk
    exact ⟨_, _, rfl, (Array.getElem?_eq_some_iff.1 h).1, cellOf h rfl⟩
  | 1, hk =>
    simp at hk
    subst hk
    exact ⟨_, _, rfl, (Array.getElem?_eq_some_iff.1 h).1, cellOf h rfl⟩
  | k + 2, hk => simp at hk
/-- all is opened, changed, and put back -/
theorem InvN.opn1 {A : AsnN} {B : Nat} {w0 w : World} (h : InvN A B w0 w) (hB : B ≤ w0.heap.size) : ∃ T N, A T N w ∧ OkTN T N w ∧ (∀ k, T k → B ≤ k) ∧
    ∀ (A' : AsnN) (w' : World) (T' N' : Nat → Prop), A' T' N' w' → GrowN w w' T N T' N' → Kp w w' T → InvN A' B w0 w' := by
  obtain ⟨T, N, a, ok, ht, hb0⟩ := h
  refine ⟨T, N, a, ok, ht, fun A' w' T' N' q g hk => ⟨T', N', q, g.2.2.2, fun k h1 => ?_, hk.below hb0 hB ht⟩⟩
  rcases g.1 k h1 with h | h
  · exact ht k h
  · have := hb0.size; omega
/-- the sizes that Plan asks of rules -/
structure SzL (L : List Rl) (t : ByteArray) : Prop where
  rl : ∀ r ∈ L, ∀ x ∈ r.tg.2.2, x.size ≤ 10000
  pn : ∀ r ∈ L, plainR r.tg.2.2 = false → ∀ x ∈ r.nd.2.2, x.size ≤ 10000
  ss : ∀ s ∈ specialR L suffixes, s.size ≤ 10000
  kn : (knownsF L).length ≤ 100000
  sp : (specialR L suffixes).length ≤ 100000
  sn : (specialR L t).length ≤ 100000
theorem special_len50 {L : List Rl} (n : ByteArray) (h : ∀ r ∈ L, r.nd.2.2.length ≤ 50) : (specialR L n).length ≤ 50 * L.length := by
  induction L with
  | nil => simp [specialR]
  | cons r L ih =>
    have h1 := ih (fun x hx => h x (by simp [hx]))
    have h3 := h r (by simp)
    have e : specialR (r :: L) n = (if ofR n r = true then r.nd.2.2 else []) ++ specialR L n := by unfold specialR; rw [List.flatMap_cons]
    rw [e, List.length_append, List.length_cons]
    split
    · omega
    · simp only [List.length_nil]
      omega
theorem knowns_len50 {L : List Rl} (h : ∀ r ∈ L, r.tg.2.2.length ≤ 50) : (knownsF L).length ≤ 50 * L.length := by
  induction L with
  | nil => simp [knownsF]
  | cons r L ih =>
    have h1 := ih (fun x hx => h x (by simp [hx]))
    have h3 := h r (by simp)
    have e : knownsF (r :: L) = (if plainR r.tg.2.2 = true then r.tg.2.2 else []) ++ knownsF L := by unfold knownsF; rw [List.flatMap_cons]
    rw [e, List.length_append, List.length_cons]
    split
    · omega
    · simp only [List.length_nil]
      omega
theorem SzL.of {L : List Rl} (t : ByteArray) (h : ∀ r ∈ L, (r.tg.2.2.length ≤ 50 ∧ r.nd.2.2.length ≤ 50) ∧ (∀ x ∈ r.tg.2.2, x.size ≤ 10000) ∧ ∀ x ∈ r.nd.2.2, x.size ≤ 10000) (hl : L.length ≤ 1000) : SzL L t := by
  have h1 := special_len50 (L := L) t (fun r hr => (h r hr).1.2)
  have h2 := special_len50 (L := L) suffixes (fun r hr => (h r hr).1.2)
  have h3 := knowns_len50 (L := L) (fun r hr => (h r hr).1.1)
  refine ⟨fun r hr => (h r hr).2.1, fun r hr _ => (h r hr).2.2, fun s hs => ?_, by omega, by omega, by omega⟩
  obtain ⟨r, hr, hx⟩ := mem_special hs
  exact (h r hr).2.2 s hx
/-- the law's makefile, newly made -/
def sfW (w1 : World) (t : ByteArray) : World := (((w1.alloc (.cells #[.string t] 9)).alloc (.cells #[.string ⟨#[114]⟩] 9)).alloc (.cells #[.slice (some ⟨w1.heap.size, 0, none⟩) 1 1, .slice none 0 0, .slice (some ⟨w1.heap.size + 1, 0, none⟩) 1 1] 33)).alloc (.cells #[.slice none 0 0, .slice (some ⟨w1.heap.size + 1 + 1, 0, none⟩) 1 1] 27)
def sfR (w1 : World) (t : ByteArray) : Rl := ⟨(some ⟨w1.heap.size, 0, none⟩, 1, [t]), (none, 0, []), (some ⟨w1.heap.size + 1, 0, none⟩, 1, [⟨#[114]⟩])⟩
theorem own1 {W : World} {g : Nat} {r : Rl} (h : W.heap[g]? = some (.cells #[sv r.tg, sv r.nd, sv r.rc] 33)) : OwnG encRl 3 33 W 0 (.slice (some ⟨g, 0, none⟩) 1 1) [r] :=
  ⟨rfl, .inr ⟨g, 1, _, rfl, Nat.zero_le _, h, Nat.le_refl _, by unfold maxLen; omega, rfl, rfl⟩⟩
theorem sfW_inv {w w1 : World} (hb : Below w.heap.size w w1) (t : ByteArray) : InvN (MKA w.heap.size (w1.heap.size + 1 + 1 + 1) [sfR w1 t]) w.heap.size w (sfW w1 t) ∧ (sfW w1 t).heap.size = w1.heap.size + 1 + 1 + 1 + 1 := by
  have hs := hb.size
  have hsz : (sfW w1 t).heap.size = w1.heap.size + 1 + 1 + 1 + 1 := by unfold sfW; simp
  have h0 : (sfW w1 t).heap[w1.heap.size]? = some (.cells #[.string t] 9) := by
    unfold sfW
    rw [Below.heap_alloc _ _ _ (by simp <;> omega), Below.heap_alloc _ _ _ (by simp <;> omega), Below.heap_alloc _ _ _ (by simp)]
    exact heapNew _ _
  have h1 : (sfW w1 t).heap[w1.heap.size + 1]? = some (.cells #[.string ⟨#[114]⟩] 9) := by
    unfold sfW
    rw [Below.heap_alloc _ _ _ (by simp <;> omega), Below.heap_alloc _ _ _ (by simp)]
    have := heapNew (w1.alloc (.cells #[.string t] 9)) (.cells #[.string ⟨#[114]⟩] 9)
    simpa using this
  have h2 : (sfW w1 t).heap[w1.heap.size + 1 + 1]? = some (.cells #[.slice (some ⟨w1.heap.size, 0, none⟩) 1 1, .slice none 0 0, .slice (some ⟨w1.heap.size + 1, 0, none⟩) 1 1] 33) := by
    unfold sfW
    rw [Below.heap_alloc _ _ _ (by simp)]
    have := heapNew ((w1.alloc (.cells #[.string t] 9)).alloc (.cells #[.string ⟨#[114]⟩] 9)) (.cells #[.slice (some ⟨w1.heap.size, 0, none⟩) 1 1, .slice none 0 0, .slice (some ⟨w1.heap.size + 1, 0, none⟩) 1 1] 33)
    simpa using this
  have h3 : (sfW w1 t).heap[w1.heap.size + 1 + 1 + 1]? = some (.cells #[.slice none 0 0, .slice (some ⟨w1.heap.size + 1 + 1, 0, none⟩) 1 1] 27) := by
    have := heapNew (((w1.alloc (.cells #[.string t] 9)).alloc (.cells #[.string ⟨#[114]⟩] 9)).alloc (.cells #[.slice (some ⟨w1.heap.size, 0, none⟩) 1 1, .slice none 0 0, .slice (some ⟨w1.heap.size + 1, 0, none⟩) 1 1] 33)) (.cells #[.slice none 0 0, .slice (some ⟨w1.heap.size + 1 + 1, 0, none⟩) 1 1] 27)
    unfold sfW
    simpa using this
  have hbb : Below w.heap.size w (sfW w1 t) := (((hb.alloc hs _).alloc (by simp; omega) _).alloc (by simp; omega) _).alloc (by simp; omega) _
  refine ⟨⟨fun k => k = w1.heap.size + 1 + 1 ∨ k = w1.heap.size + 1 + 1 + 1, fun k => k < w.heap.size ∨ k = w1.heap.size ∨ k = w1.heap.size + 1, ⟨_, .inr rfl, h3, own1 h2, fun k e => ?_, fun k hk => .inl hk, fun r hr => ?_⟩, ⟨fun k hk => ?_, fun k hk => ?_⟩, fun k hk => ?_, hbb⟩, hsz⟩
  · simp only [Value.ownBlock] at e
    injection e with e
    subst e
    exact ⟨.inl rfl, by omega⟩
  · obtain rfl := List.mem_singleton.1 hr
    refine ⟨⟨sr_one h0, SR.nil _ _, sr_one h1, by simp [sfR], by simp [sfR], by simp [sfR]⟩, ⟨fun a e _ => ?_, fun a e _ => (by cases e), fun a e _ => ?_⟩⟩
    · injection e with e
      subst e
      exact .inr (.inl rfl)
    · injection e with e
      subst e
      exact .inr (.inr rfl)
  · rw [hsz]
    omega
  · rw [hsz]
    omega
  · omega
/-- a makefile that is done: what its readers ask -/
theorem MKA.done {B gm : Nat} {L : List Rl} {w0 w : World} (h : InvN (MKA B gm L) B w0 w) : ∃ A c, w.heap[gm]? = some (.cells #[.slice none 0 0, .slice A L.length c] 27) ∧ RLS w A L := by
  obtain ⟨T, N, ⟨vr, h1, h2, h3, h4, h5, h6⟩, _⟩ := h
  obtain ⟨A, c, rfl, _, hr, _⟩ := h3.slice encRl_len
  exact ⟨A, c, h2, hr, fun r hr => (h6 r hr).1⟩
set_option linter.unusedSimpArgs false in
set_option maxRecDepth 100000 in
set_option maxHeartbeats 8000000 in
theorem law_findSuffixes (s a b : ByteArray) (listed there : Bool) (h1 : s.size ≤ reachBytes) (h2 : a.size ≤ reachBytes) (h3 : b.size ≤ reachBytes) (w : World) (hm : MX w) :
    Calls Tryd.prog 4 #[.string s, .string a, .string b, .bool listed, .bool there] w fun e w' => e = .returned (.bool true) ∧ Below w.heap.size w w' := by
  have HM := hide hm
  clear hm
  obtain ⟨sl, rfl⟩ : ∃ l, s = bs l := ⟨_, (bs_of s).symm⟩
  obtain ⟨al, rfl⟩ : ∃ l, a = bs l := ⟨_, (bs_of a).symm⟩
  obtain ⟨bl, rfl⟩ : ∃ l, b = bs l := ⟨_, (bs_of b).symm⟩
  have zs := bs_size sl
  have za := bs_size al
  have zb := bs_size bl
  have hrb := reachBytes_lt
  obtain ⟨ns, hns⟩ : ∃ n, sl.length = n := ⟨_, rfl⟩
  obtain ⟨na, hna⟩ : ∃ n, al.length = n := ⟨_, rfl⟩
  obtain ⟨nb, hnb⟩ : ∃ n, bl.length = n := ⟨_, rfl⟩
  rw [hns] at zs
  rw [hna] at za
  rw [hnb] at zb
  have HNS := hide hns
  have HNA := hide hna
  have HNB := hide hnb
  have HES := hide (empty_bs (l := sl))
  have HEA := hide (empty_bs (l := al))
  have HEB := hide (empty_bs (l := bl))
  have HAB := hide (bs_eqv al bl)
  have q1 : ¬ 9223372036854775807 < ns + na := by omega
  have q2 : ¬ 9223372036854775807 < ns + na + nb := by omega
  clear hns hna hnb
  go_enter Tryd.func4, Tryd.ntmps4
  go_wp2_with fail
  refine (alive21_any w HM.out).mono ?_
  rintro e w1 ⟨rfl, hb1⟩
  have HB1 := hide hb1
  clear hb1
  by_cases c1 : sl = []
  · have e1 : (bs sl).toList.isEmpty = true := by rw [HES.out, decide_eq_true c1]
    clear c1
    go_wp2
    go_ret
    exact ⟨rfl, HB1.out⟩
  have e1 : (bs sl).toList.isEmpty = false := by rw [HES.out, decide_eq_false c1]
  by_cases c2 : al = []
  · have e2 : (bs al).toList.isEmpty = true := by rw [HEA.out, decide_eq_true c2]
    clear c1 c2
    go_wp2
    go_ret
    exact ⟨rfl, HB1.out⟩
  have e2 : (bs al).toList.isEmpty = false := by rw [HEA.out, decide_eq_false c2]
  by_cases c3 : bl = []
  · have e3 : (bs bl).toList.isEmpty = true := by rw [HEB.out, decide_eq_true c3]
    clear c1 c2 c3
    go_wp2
    go_ret
    exact ⟨rfl, HB1.out⟩
  have e3 : (bs bl).toList.isEmpty = false := by rw [HEB.out, decide_eq_false c3]
  by_cases c4 : al = bl
  · have e4 : ((bs al).toList == (bs bl).toList) = true := by rw [HAB.out, decide_eq_true c4]
    clear c1 c2 c3 c4
    go_wp2
    go_ret
    exact ⟨rfl, HB1.out⟩
  have e4 : ((bs al).toList == (bs bl).toList) = false := by rw [HAB.out, decide_eq_false c4]
  have C123 := hide (And.intro c1 (And.intro c2 (And.intro c3 c4)))
  clear c1 c2 c3 c4
  by_cases c5 : 60 < ns + na + nb
  · have d5 : decide ((60 : Int) < (ns : Int) + (na : Int) + (nb : Int)) = true := by simp; omega
    go_wp2
    go_ret
    exact ⟨rfl, HB1.out⟩
  have d5 : decide ((60 : Int) < (ns : Int) + (na : Int) + (nb : Int)) = false := by simp; omega
  have HTX := hide (show bs sl ++ bs al ++ bs bl = bs (sl ++ al ++ bl) by rw [bs_app, bs_app])
  obtain ⟨tx, htx⟩ : ∃ t, sl ++ al ++ bl = t := ⟨_, rfl⟩
  have HTT := hide htx
  rw [htx] at HTX
  have ztx : (bs tx).size = ns + na + nb := by rw [bs_size, ← htx, List.length_append, List.length_append, HNS.out, HNA.out, HNB.out]
  obtain ⟨n, hn⟩ : ∃ n, ns + na + nb = n := ⟨_, rfl⟩
  have HN := hide hn
  have hn60 : n ≤ 60 := by omega
  rw [hn] at ztx
  have hni : (n : Int) ≤ 60 := by omega
  clear htx hn
  go_wp2
  rw [HTX.out]
  go_loopw [13] (fun v13 wr => ∃ k : Nat, v13 = .int .i64 k ∧ k ≤ n ∧ Hid (lowT (tx.take k)) ∧ w1 = wr) (fun v13 _ => n - (intOf v13).toNat)
  case atStart => exact ⟨0, rfl, by omega, (by intro c hc; simp at hc), rfl⟩
  case round =>
    obtain ⟨k, rfl, hk, HLW, rfl⟩ := hrel
    by_cases hlt : k < n
    · have b1 : (k : Int) < (n : Int) := by omega
      obtain ⟨x, hx⟩ : ∃ x, tx[k]? = some x := ⟨tx[k]'(by rw [bs_size] at ztx; omega), List.getElem?_eq_getElem _⟩
      have hbt : bt (bs tx) k = x.toNat := by
        unfold bt bs
        simp [hx]
      have HLS := hide (fun (h : 97 ≤ x ∧ x ≤ 122) => show lowT (tx.take (k + 1)) by
        rw [List.take_add_one, hx]
        exact low_app.2 ⟨HLW.out, fun c hc => by simp at hc; rw [hc]; exact h⟩)
      obtain ⟨xn, hxn⟩ : ∃ m, x.toNat = m := ⟨_, rfl⟩
      have HXN := hide hxn
      rw [hxn] at hbt
      clear hx hxn
      by_cases c6 : xn < 97
      · have d6 : decide ((97 : Int) ≤ (xn : Int)) = false := by simp; omega
        have d6' : decide (97 ≤ xn) = false := by simp; omega
        go_wp2
        go_ret
        exact ⟨rfl, HB1.out⟩
      have d6 : decide ((97 : Int) ≤ (xn : Int)) = true := by simp; omega
      have d6' : decide (97 ≤ xn) = true := by simp; omega
      by_cases c7 : 122 < xn
      · have d7 : decide ((xn : Int) ≤ (122 : Int)) = false := by simp; omega
        have d7' : decide (xn ≤ 122) = false := by simp; omega
        go_wp2
        go_ret
        exact ⟨rfl, HB1.out⟩
      have d7 : decide ((xn : Int) ≤ (122 : Int)) = true := by simp; omega
      have d7' : decide (xn ≤ 122) = true := by simp; omega
      have HNX := hide (HLS.out ⟨UInt8.le_iff_toNat_le.2 (by rw [HXN.out]; show 97 ≤ xn; omega), UInt8.le_iff_toNat_le.2 (by rw [HXN.out]; show xn ≤ 122; omega)⟩)
      clear c6 c7
      go_wp2
      go_roundw
      case rel => exact ⟨k + 1, by go_num, by omega, HNX.out, trivial⟩
      case measure => simp [intOf]; omega
    · obtain rfl : n = k := by omega
      have hlw := HLW.out
      rw [List.take_of_length_le (by rw [bs_size] at ztx; omega), ← HTT.out] at hlw
      obtain ⟨hlsa, hlb⟩ := low_app.1 hlw
      obtain ⟨hls, hla⟩ := low_app.1 hlsa
      have HL := hide (And.intro hls (And.intro hla hlb))
      clear hlw hlsa hls hla hlb
      have hcn := HN.out
      have HT1 := hide (show (⟨#[46]⟩ : ByteArray) ++ bs al ++ ⟨#[46]⟩ ++ bs bl = bs (46 :: (al ++ 46 :: bl)) by
        rw [show (⟨#[46]⟩ : ByteArray) = bs [46] from rfl, bs_app, bs_app, bs_app]
        simp)
      have HT2 := hide (show (⟨#[47]⟩ : ByteArray) ++ bs sl ++ ⟨#[46]⟩ ++ bs al = bs (47 :: (sl ++ 46 :: al)) by
        rw [show (⟨#[47]⟩ : ByteArray) = bs [47] from rfl, show (⟨#[46]⟩ : ByteArray) = bs [46] from rfl, bs_app, bs_app, bs_app]
        simp)
      have HT3 := hide (show bs sl ++ (⟨#[46]⟩ : ByteArray) ++ bs bl = bs (sl ++ 46 :: bl) by
        rw [show (⟨#[46]⟩ : ByteArray) = bs [46] from rfl, bs_app, bs_app]
        simp)
      have HT4 := hide (show bs sl ++ (⟨#[46]⟩ : ByteArray) ++ bs al = bs (sl ++ 46 :: al) by
        rw [show (⟨#[46]⟩ : ByteArray) = bs [46] from rfl, bs_app, bs_app]
        simp)
      have HT5 := hide (show (⟨#[46]⟩ : ByteArray) ++ bs al = bs (46 :: al) by
        rw [show (⟨#[46]⟩ : ByteArray) = bs [46] from rfl, bs_app]
        simp)
      have HT6 := hide (show (⟨#[46]⟩ : ByteArray) ++ bs bl = bs (46 :: bl) by
        rw [show (⟨#[46]⟩ : ByteArray) = bs [46] from rfl, bs_app]
        simp)
      obtain ⟨hi0, hsz0⟩ := sfW_inv HB1.out (bs (46 :: (al ++ 46 :: bl)))
      have HI0 := hide hi0
      have HSR := hide (show SufR al bl (sfR w1 (bs (46 :: (al ++ 46 :: bl)))) from ⟨rfl, rfl, rfl⟩)
      clear hi0
      have hnb1 : 1 ≤ nb := by
        rw [← HNB.out]
        cases hb : bl with
        | nil => exact absurd hb C123.out.2.2.1
        | cons a l => simp
      have HS2 := hide (show SufS al bl ⟨(none, 0, [suffixes]), (none, 0, [bs (46 :: al), bs (46 :: bl)]), (none, 0, [])⟩ from ⟨rfl, rfl, rfl⟩)
      have hgd := good_dot HL.out.1 HL.out.2.1 C123.out.1 (by have := HNS.out; have := HNA.out; omega)
      obtain ⟨we, wm, _⟩ := write_top (newS 3 3) hgd rfl (by decide) (by decide)
      have HWE := hide we
      have HKF := hide (show kindM (newS 3 3).m (47 :: (sl ++ 46 :: al)) = 0 from by
        unfold kindM
        rw [if_neg (top_ne _ hgd)]
        rfl)
      have HKT := hide (show kindM (writeS (newS 3 3) (47 :: (sl ++ 46 :: al)) [] false).1.m (47 :: (sl ++ 46 :: al)) = 1 from by
        rw [wm]
        unfold kindM
        rw [if_neg (top_ne _ hgd), getG_put, if_pos rfl]
        rfl)
      clear we wm hgd
      cases listed with
      | false =>
        have SZ := hide (SzL.of (L := [sfR w1 (bs (46 :: (al ++ 46 :: bl)))]) (bs (sl ++ 46 :: bl)) (fun r hr => by
          obtain rfl := List.mem_singleton.1 hr
          refine ⟨⟨by simp [sfR], by simp [sfR]⟩, fun x hx => ?_, fun x hx => by simp [sfR] at hx⟩
          simp only [sfR, List.mem_singleton] at hx
          subst hx
          have := HNA.out
          have := HNB.out
          rw [bs_size]
          simp
          omega) (by simp))
        have HI := hide HI0.out
        go_wp2_with fail
        rw [HT1.out]
        obtain ⟨Am, cm, hgm, hrl⟩ := MKA.done HI.out
        have HRL := hide hrl
        have HGM := hide hgm
        have hgl := (Array.getElem?_eq_some_iff.1 hgm).1
        have HBW := hide HI.out.below
        have hgw := HBW.out.size
        have HNW := hide (vnew_any 3 3 (sfW w1 (bs (46 :: (al ++ 46 :: bl)))) (by omega) (by omega) (by omega) (by omega))
        clear hgm hrl
        refine HNW.out.mono ?_
        rintro e w5 ⟨rfl, hb5, hv5, hs5⟩
        have HTA := hide (TA.new HBW.out 3 3 hb5 hv5 hs5)
        have HB5 := hide hb5
        clear hb5 hv5 hs5 HNW
        obtain ⟨bb, hbb⟩ : ∃ b, (sfW w1 (bs (46 :: (al ++ 46 :: bl)))).heap.size = b := ⟨_, rfl⟩
        have HBB := hide hbb
        rw [hbb] at HTA hgw hgl ⊢
        have hbl5 := HB5.out.size
        rw [hbb] at hbl5
        have HPO := hide (fun (S : St) (w6 : World) (ht : TA bb w S w6) (hb6 : Below (sfW w1 (bs (46 :: (al ++ 46 :: bl)))).heap.size (sfW w1 (bs (46 :: (al ++ 46 :: bl)))) w6) => plan_any { mac := .slice none 0 0, A := Am, c := cm, L := [sfR w1 (bs (46 :: (al ++ 46 :: bl)))], gf := bb + 1, S := S, cwd := [47], target := sl ++ 46 :: bl } w6 ⟨HRL.out.below hb6, ht.hs, HM.out.below ht.below, by simp, by have := HNS.out; have := HNB.out; simp; omega, by simp⟩ ⟨SZ.out.rl, SZ.out.pn, SZ.out.ss, SZ.out.kn, SZ.out.sp⟩ SZ.out.sn)
        dsimp only at HPO
        have hgm5 := (HB5.out.block (w1.heap.size + 1 + 1 + 1) (by omega)).trans HGM.out
        clear hbb
        cases there with
        | false =>
          have hpo := HPO.out (newS 3 3) w5 HTA.out HB5.out
          rw [(suf_plan HL.out.1 HL.out.2.1 HL.out.2.2 C123.out.1 C123.out.2.2.2 (by have := HNS.out; have := HNA.out; omega) _ HSR.out HS2.out).1] at hpo
          unfold PlanPost at hpo
          have HPL := hide hpo
          have hx0 : w5.cell? ⟨w1.heap.size + 1 + 1 + 1, 0, none⟩ = some (.slice none 0 0) := cellOf hgm5 (j := 0) rfl
          have hx1 : w5.cell? ⟨w1.heap.size + 1 + 1 + 1, 1, none⟩ = some (.slice Am ([sfR w1 (bs (46 :: (al ++ 46 :: bl)))]).length cm) := cellOf hgm5 (j := 1) rfl
          simp only [List.length_cons, List.length_nil, Nat.zero_add, Nat.reduceAdd] at hx1 HPL
          have HT6W := hide (HTA.out.below)
          clear hpo
          go_wp2_with fail
          rw [HT3.out]
          refine HPL.out.mono ?_
          rintro e w7 ⟨vn, vr, rfl, ho1, ho2, hb7⟩
          obtain ⟨A6, c6, rfl, _, s6, _⟩ := ho1.slice
          obtain ⟨A7, c7, rfl, _, s7, _⟩ := ho2.slice
          have HB7 := hide (below_up HT6W.out hb7 HT6W.out.size)
          clear ho1 ho2 hb7 s6 s7
          rw [show noPn = ⟨[], [], [], false⟩ from rfl]
          simp only [List.length_nil]
          go_wp2
          go_ret
          exact ⟨rfl, HB7.out.alloc HB7.out.size _⟩
        | true =>
          go_wp2_with fail
          rw [HT2.out]
          refine (TA.write HTA.out hgw HM.out (newS_wf 3 3) (by decide) (by decide) (47 :: (sl ++ 46 :: al)) (by have := HNS.out; have := HNA.out; simp; omega) [] (by decide) false none 0 (RG.nil _ _)).mono ?_
          rintro e w6 ⟨rfl, ht6, hk6⟩
          have hgm6 := (hk6.block (w1.heap.size + 1 + 1 + 1) (Array.getElem?_eq_some_iff.1 hgm5).1 (fun h => by unfold T0 at h; omega)).trans hgm5
          have hb6 : Below (sfW w1 (bs (46 :: (al ++ 46 :: bl)))).heap.size (sfW w1 (bs (46 :: (al ++ 46 :: bl)))) w6 := hk6.below HB5.out (Nat.le_refl _) (fun k h => by unfold T0 at h; have := HBB.out; omega)
          have hpo := HPO.out _ w6 ht6 hb6
          rw [(suf_plan HL.out.1 HL.out.2.1 HL.out.2.2 C123.out.1 C123.out.2.2.2 (by have := HNS.out; have := HNA.out; omega) _ HSR.out HS2.out).1] at hpo
          unfold PlanPost at hpo
          have HPL := hide hpo
          have hx0 : w6.cell? ⟨w1.heap.size + 1 + 1 + 1, 0, none⟩ = some (.slice none 0 0) := cellOf hgm6 (j := 0) rfl
          have hx1 : w6.cell? ⟨w1.heap.size + 1 + 1 + 1, 1, none⟩ = some (.slice Am ([sfR w1 (bs (46 :: (al ++ 46 :: bl)))]).length cm) := cellOf hgm6 (j := 1) rfl
          simp only [List.length_cons, List.length_nil, Nat.zero_add, Nat.reduceAdd] at hx1 HPL
          have HT6W := hide (ht6.below)
          clear hpo hk6 hb6 ht6 hgm6
          go_wp2_with fail
          rw [HT3.out]
          refine HPL.out.mono ?_
          rintro e w7 ⟨vn, vr, rfl, ho1, ho2, hb7⟩
          obtain ⟨A6, c6, rfl, _, s6, _⟩ := ho1.slice
          obtain ⟨A7, c7, rfl, _, s7, _⟩ := ho2.slice
          have HB7 := hide (below_up HT6W.out hb7 HT6W.out.size)
          clear ho1 ho2 hb7 s6 s7
          rw [show noPn = ⟨[], [], [], false⟩ from rfl]
          simp only [List.length_nil]
          go_wp2
          go_ret
          exact ⟨rfl, HB7.out.alloc HB7.out.size _⟩
      | true =>
        go_upto_if 75 with (fail)
        rw [HT1.out]
        obtain ⟨W1, hW1⟩ : ∃ W, (((w1.alloc (.cells #[.string (bs (46 :: (al ++ 46 :: bl)))] 9)).alloc (.cells #[.string ⟨#[114]⟩] 9)).alloc (.cells #[.slice (some ⟨w1.heap.size, 0, none⟩) 1 1, .slice none 0 0, .slice (some ⟨w1.heap.size + 1, 0, none⟩) 1 1] 33)).alloc (.cells #[.slice none 0 0, .slice (some ⟨w1.heap.size + 1 + 1, 0, none⟩) 1 1] 27) = W := ⟨_, rfl⟩
        have hW1' : sfW w1 (bs (46 :: (al ++ 46 :: bl))) = W1 := hW1
        rw [hW1'] at HI0 hsz0
        rw [hW1]
        obtain ⟨R1, hR1⟩ : ∃ R, sfR w1 (bs (46 :: (al ++ 46 :: bl))) = R := ⟨_, rfl⟩
        have HR1 := hide (show R1.tg.2.2 = [bs (46 :: (al ++ 46 :: bl))] ∧ R1.nd.2.2 = [] from by rw [← hR1]; exact ⟨rfl, rfl⟩)
        rw [hR1] at HI0 HSR
        clear hW1 hW1' hR1 hsz0
        obtain ⟨T, N, hmk, ok, ht, close⟩ := HI0.out.opn1 (Nat.le_refl _)
        have hba := (Below.refl W1.heap.size W1).alloc (Nat.le_refl _) (.cells #[.string ⟨#[46, 83, 85, 70, 70, 73, 88, 69, 83]⟩] 9)
        have hbb := hba.alloc (by simp) (.cells #[.string (⟨#[46]⟩ ++ bs al), .string (⟨#[46]⟩ ++ bs bl)] 9)
        have hn1 : ((W1.alloc (.cells #[.string ⟨#[46, 83, 85, 70, 70, 73, 88, 69, 83]⟩] 9)).alloc (.cells #[.string (⟨#[46]⟩ ++ bs al), .string (⟨#[46]⟩ ++ bs bl)] 9)).heap[W1.heap.size]? = some (.cells #[.string ⟨#[46, 83, 85, 70, 70, 73, 88, 69, 83]⟩] 9) := (Below.heap_alloc _ _ _ (by simp)).trans (heapNew _ _)
        have hn2 := heapNew (W1.alloc (.cells #[.string ⟨#[46, 83, 85, 70, 70, 73, 88, 69, 83]⟩] 9)) (.cells #[.string (⟨#[46]⟩ ++ bs al), .string (⟨#[46]⟩ ++ bs bl)] 9)
        rw [show (W1.alloc (.cells #[.string ⟨#[46, 83, 85, 70, 70, 73, 88, 69, 83]⟩] 9)).heap.size = W1.heap.size + 1 by simp] at hn2
        obtain ⟨r2, hr2⟩ : ∃ r : Rl, r = ⟨(some ⟨W1.heap.size, 0, none⟩, 1, [⟨#[46, 83, 85, 70, 70, 73, 88, 69, 83]⟩]), (some ⟨W1.heap.size + 1, 0, none⟩, 2, [⟨#[46]⟩ ++ bs al, ⟨#[46]⟩ ++ bs bl]), (none, 0, [])⟩ := ⟨_, rfl⟩
        have HS2' := hide (show SufS al bl r2 from by rw [hr2, HT5.out, HT6.out]; exact ⟨rfl, rfl, rfl⟩)
        obtain ⟨Aa, ca, v', W', ea1, ea2, hrun, ⟨A', c', rfl⟩, ea4, T', N', hmk', hg', hk'⟩ := hmk.app ok hbb r2 (by
          rw [hr2]
          exact ⟨sr_one hn1, sr_two' hn2, SR.nil _ _, by simp, by simp, by simp⟩) (by
          rw [hr2]
          refine ⟨fun a e _ => .inr ?_, fun a e _ => .inr ?_, fun a e _ => (by cases e)⟩
          · injection e with e
            subst e
            simp <;> omega
          · injection e with e
            subst e
            simp <;> omega) (by simp)
        have HI := hide (close _ _ _ _ hmk' hg' hk')
        have hrun' : (Builtin.append_ #[25, 25] 25 #[.slice Aa 1 ca, .slice (some ⟨W1.heap.size + 1 + 1, 0, none⟩) 1 1]).run Tryd.prog (((W1.alloc (.cells #[.string ⟨#[46, 83, 85, 70, 70, 73, 88, 69, 83]⟩] 9)).alloc (.cells #[.string (⟨#[46]⟩ ++ bs al), .string (⟨#[46]⟩ ++ bs bl)] 9)).alloc (.cells #[.slice (some ⟨W1.heap.size, 0, none⟩) 1 1, .slice (some ⟨W1.heap.size + 1, 0, none⟩) 2 2, .slice none 0 0] 33)) = .ok (.slice A' 2 c') W' := by
          rw [hr2] at hrun
          simpa [sv] using hrun
        have hy1 : W1.cell? ⟨w1.heap.size + 1 + 1 + 1, 1, none⟩ = some (.slice Aa 1 ca) := cellOf ea1 (j := 1) rfl
        have hy4 : W'.cell? ⟨w1.heap.size + 1 + 1 + 1, 1, none⟩ = some (.slice Aa 1 ca) := cellOf ea4 (j := 1) rfl
        have hz4 := freeOf ea4 1
        clear hmk ok ht close hba hbb hn1 hn2 hr2 ea1 ea2 hrun ea4 hmk' hg' hk' HS2
        go_wp2_with (at_builtin; refine wpList_app_run ?_ (.tmp 77) (.tmp 85) ?_ ?_ ?_ ?_ hrun' ?_; exact rfl; exact rfl; exact rfl; exact rfl; exact rfl)
        have SZ := hide (SzL.of (L := [R1, r2]) (bs (sl ++ 46 :: bl)) (fun r hr => by
          have hna := HNA.out
          have hnb := HNB.out
          rcases List.mem_cons.1 hr with rfl | hr
          · rw [HR1.out.1, HR1.out.2]
            refine ⟨⟨by simp, by simp⟩, fun x hx => ?_, fun x hx => by cases hx⟩
            rw [List.mem_singleton.1 hx, bs_size]
            simp
            omega
          · obtain rfl := List.mem_singleton.1 hr
            rw [HS2'.out.t, HS2'.out.n]
            refine ⟨⟨by simp, by simp⟩, fun x hx => ?_, fun x hx => ?_⟩
            · rw [List.mem_singleton.1 hx]
              decide
            · simp only [List.mem_cons, List.not_mem_nil, or_false] at hx
              rcases hx with rfl | rfl <;> rw [bs_size] <;> simp <;> omega) (by simp))
        have HS2 := hide HS2'.out
        obtain ⟨W3, hW3⟩ : ∃ W, W'.setCell ⟨w1.heap.size + 1 + 1 + 1, 1, none⟩ (.slice A' 2 c') = W := ⟨_, rfl⟩
        have HI := hide (show InvN (MKA w.heap.size (w1.heap.size + 1 + 1 + 1) [R1, r2]) w.heap.size w (W'.setCell ⟨w1.heap.size + 1 + 1 + 1, 1, none⟩ (.slice A' 2 c')) from HI.out)
        rw [hW3] at HI ⊢
        clear hW3 hrun' hy1 hy4 hz4 HS2'
        obtain ⟨Am, cm, hgm, hrl⟩ := MKA.done HI.out
        have HRL := hide hrl
        have HGM := hide hgm
        have hgl := (Array.getElem?_eq_some_iff.1 hgm).1
        have HBW := hide HI.out.below
        have hgw := HBW.out.size
        have HNW := hide (vnew_any 3 3 (W3) (by omega) (by omega) (by omega) (by omega))
        clear hgm hrl
        refine HNW.out.mono ?_
        rintro e w5 ⟨rfl, hb5, hv5, hs5⟩
        have HTA := hide (TA.new HBW.out 3 3 hb5 hv5 hs5)
        have HB5 := hide hb5
        clear hb5 hv5 hs5 HNW
        obtain ⟨bb, hbb⟩ : ∃ b, (W3).heap.size = b := ⟨_, rfl⟩
        have HBB := hide hbb
        rw [hbb] at HTA hgw hgl ⊢
        have hbl5 := HB5.out.size
        rw [hbb] at hbl5
        have HPO := hide (fun (S : St) (w6 : World) (ht : TA bb w S w6) (hb6 : Below (W3).heap.size (W3) w6) => plan_any { mac := .slice none 0 0, A := Am, c := cm, L := [R1, r2], gf := bb + 1, S := S, cwd := [47], target := sl ++ 46 :: bl } w6 ⟨HRL.out.below hb6, ht.hs, HM.out.below ht.below, by simp, by have := HNS.out; have := HNB.out; simp; omega, by simp⟩ ⟨SZ.out.rl, SZ.out.pn, SZ.out.ss, SZ.out.kn, SZ.out.sp⟩ SZ.out.sn)
        dsimp only at HPO
        have hgm5 := (HB5.out.block (w1.heap.size + 1 + 1 + 1) (by omega)).trans HGM.out
        clear hbb
        cases there with
        | false =>
          have hpo := HPO.out (newS 3 3) w5 HTA.out HB5.out
          rw [(suf_plan HL.out.1 HL.out.2.1 HL.out.2.2 C123.out.1 C123.out.2.2.2 (by have := HNS.out; have := HNA.out; omega) _ HSR.out HS2.out).2, if_neg (by rw [HKF.out]; omega)] at hpo
          unfold PlanPost at hpo
          have HPL := hide hpo
          have hx0 : w5.cell? ⟨w1.heap.size + 1 + 1 + 1, 0, none⟩ = some (.slice none 0 0) := cellOf hgm5 (j := 0) rfl
          have hx1 : w5.cell? ⟨w1.heap.size + 1 + 1 + 1, 1, none⟩ = some (.slice Am ([R1, r2]).length cm) := cellOf hgm5 (j := 1) rfl
          simp only [List.length_cons, List.length_nil, Nat.zero_add, Nat.reduceAdd] at hx1 HPL
          have HT6W := hide (HTA.out.below)
          clear hpo
          go_wp2_with fail
          rw [HT3.out]
          refine HPL.out.mono ?_
          rintro e w7 ⟨vn, vr, rfl, ho1, ho2, hb7⟩
          obtain ⟨A6, c6, rfl, _, s6, _⟩ := ho1.slice
          obtain ⟨A7, c7, rfl, _, s7, _⟩ := ho2.slice
          have HB7 := hide (below_up HT6W.out hb7 HT6W.out.size)
          clear ho1 ho2 hb7 s6 s7
          rw [show noPn = ⟨[], [], [], false⟩ from rfl]
          simp only [List.length_nil]
          go_wp2
          go_ret
          exact ⟨rfl, HB7.out.alloc HB7.out.size _⟩
        | true =>
          go_wp2_with fail
          rw [HT2.out]
          refine (TA.write HTA.out hgw HM.out (newS_wf 3 3) (by decide) (by decide) (47 :: (sl ++ 46 :: al)) (by have := HNS.out; have := HNA.out; simp; omega) [] (by decide) false none 0 (RG.nil _ _)).mono ?_
          rintro e w6 ⟨rfl, ht6, hk6⟩
          have hgm6 := (hk6.block (w1.heap.size + 1 + 1 + 1) (Array.getElem?_eq_some_iff.1 hgm5).1 (fun h => by unfold T0 at h; omega)).trans hgm5
          have hb6 : Below (W3).heap.size (W3) w6 := hk6.below HB5.out (Nat.le_refl _) (fun k h => by unfold T0 at h; have := HBB.out; omega)
          have hpo := HPO.out _ w6 ht6 hb6
          rw [(suf_plan HL.out.1 HL.out.2.1 HL.out.2.2 C123.out.1 C123.out.2.2.2 (by have := HNS.out; have := HNA.out; omega) _ HSR.out HS2.out).2, if_pos (by rw [HKT.out])] at hpo
          unfold PlanPost at hpo
          have HPL := hide hpo
          have hx0 : w6.cell? ⟨w1.heap.size + 1 + 1 + 1, 0, none⟩ = some (.slice none 0 0) := cellOf hgm6 (j := 0) rfl
          have hx1 : w6.cell? ⟨w1.heap.size + 1 + 1 + 1, 1, none⟩ = some (.slice Am ([R1, r2]).length cm) := cellOf hgm6 (j := 1) rfl
          simp only [List.length_cons, List.length_nil, Nat.zero_add, Nat.reduceAdd] at hx1 HPL
          have HT6W := hide (ht6.below)
          clear hpo hk6 hb6 ht6 hgm6
          go_wp2_with fail
          rw [HT3.out]
          refine HPL.out.mono ?_
          rintro e w7 ⟨vn, vr, rfl, ho1, ho2, hb7⟩
          obtain ⟨A6, c6, rfl, _, s6, _⟩ := ho1.slice
          obtain ⟨A7, c7, rfl, _, s7, _⟩ := ho2.slice
          have HB7 := hide (below_up HT6W.out hb7 HT6W.out.size)
          obtain ⟨g6, o6, rfl, _, hc6⟩ := s6 0 _ rfl
          rw [Nat.add_zero] at hc6
          clear ho1 ho2 hb7 s7
          simp only [List.length_cons, List.length_nil, Nat.zero_add]
          rw [← HT4.out] at hc6
          go_wp2
          go_ret
          exact ⟨rfl, HB7.out.alloc HB7.out.size _⟩
end Go.Proofs.YtmblmenafplccaaDoor
