/- Walk of the reference's arith: one, from plain's contract. -/
import Derived.Test.YtpjbklajjikgjaaDoorArithRefB
import Derived.Test.YtpjbklajjikgjaaDoorArithRefE
import Derived.Test.YtpjbklajjikgjaaDoorArithWalkI
import Derived.Test.YtpjbklajjikgjaaDoorStrsWalkC
namespace Go.Proofs.YtpjbklajjikgjaaDoor
open Go.RowKit Go.Deep

/-- how a call of the reference's reader ends -/
def REnd (g : Nat) (s : ByteArray) (lv : Value) (d : Nat) (w : World) (r : Ar.R) (e : Ending) (w' : World) : Prop := match r with
  | .ok (v, u, z') => ∃ j, e = .returned (.int .i64 v) ∧ RR w' g s lv j d 0 z' ∧ j ≤ s.size ∧ dr s j = u ∧ Gr w w' g
  | .error c => c ≠ 0 ∧ ∃ (v : Int) (j d' : Nat) (z' : Bool), e = .returned (.int .i64 v) ∧ RR w' g s lv j d' c z' ∧ j ≤ s.size ∧ Gr w w' g
theorem REnd.ret {g : Nat} {s : ByteArray} {lv : Value} {d : Nat} {w : World} {r : Ar.R} {e : Ending} {w' : World} (h : REnd g s lv d w r e w') :
    ∃ v : Int, e = .returned (.int .i64 v) ∧ Gr w w' g ∧ ∀ f : Int → Int, REnd g s lv d w (Ar.bd r fun x => .ok (f x.1, x.2.1, x.2.2)) (.returned (.int .i64 (f v))) w' := by
  cases r with
  | error c =>
    obtain ⟨h0, v, j, d', z', rfl, h1, h2, h3⟩ := h
    exact ⟨v, rfl, h3, fun f => ⟨h0, f v, j, d', z', rfl, h1, h2, h3⟩⟩
  | ok x =>
    obtain ⟨v, u, z⟩ := x
    obtain ⟨j, rfl, h1, h2, h3, h4⟩ := h
    exact ⟨v, rfl, h4, fun f => ⟨j, rfl, h1, h2, h3, h4⟩⟩
theorem REnd.gr {g : Nat} {s : ByteArray} {lv : Value} {d : Nat} {w0 w : World} {r : Ar.R} {e : Ending} {w' : World} (h : REnd g s lv d w r e w') (hg : Gr w0 w g) : REnd g s lv d w0 r e w' := by
  cases r with
  | error c =>
    obtain ⟨h0, v, j, d', z', rfl, h1, h2, h3⟩ := h
    exact ⟨h0, v, j, d', z', rfl, h1, h2, gb_trans hg h3⟩
  | ok x =>
    obtain ⟨v, u, z⟩ := x
    obtain ⟨j, rfl, h1, h2, h3, h4⟩ := h
    exact ⟨j, rfl, h1, h2, h3, gb_trans hg h4⟩
def RPCon (A : Option Addr) (P : List Pr) (c B g : Nat) (s : ByteArray) (d : Nat) (E : Ar.Ex) : Prop :=
  ∀ (i : Nat) (z : Bool) (w : World), RR w g s (.slice A P.length c) i d 0 z → PB w A P B → i ≤ s.size → Ar.sk (dr s i) = dr s i →
    Calls Tryd.prog 39 #[.pointer (some ⟨g, 0, none⟩), .string (opS (Ar.opc (dr s i)))] w fun e w' => REnd g s (.slice A P.length c) d w (Ar.prim (KP P) E (dr s i) z) e w'
/-- a sign's number -/
def sgC (c : UInt8) : Nat := if c = 43 then 14 else if c = 45 then 15 else if c = 33 then 19 else 20
theorem sg_fin : ∀ c ∈ (0 :: S15), ∀ d ∈ (0 :: S5), (Ar.isSg c d = true ↔ (Ar.opc2 c d = 14 ∨ Ar.opc2 c d = 15 ∨ Ar.opc2 c d = 19 ∨ Ar.opc2 c d = 20)) ∧ (Ar.isSg c d = true → opS (Ar.opc2 c d) = ⟨#[c]⟩) := by decide +kernel
theorem isSg_c {c : UInt8} (h : c ∉ S15) (d : UInt8) : Ar.isSg c d = false := by
  have g : ∀ a ∈ S15, (c == a) = false := fun a ha => by
    rw [beq_eq_false_iff_ne]
    rintro rfl
    exact h ha
  simp only [Ar.isSg, g 43 (by decide), g 45 (by decide), g 126 (by decide), g 33 (by decide)]
  rfl
theorem isSg_d {d : UInt8} (h : d ∉ S5) (c : UInt8) : Ar.isSg c d = Ar.isSg c 0 := by
  have g : (d == 61) = false := by
    rw [beq_eq_false_iff_ne]
    rintro rfl
    exact h (by decide)
  simp only [Ar.isSg, g]
  rfl
theorem sg_all (c d : UInt8) : (Ar.isSg c d = true ↔ (Ar.opc2 c d = 14 ∨ Ar.opc2 c d = 15 ∨ Ar.opc2 c d = 19 ∨ Ar.opc2 c d = 20)) ∧ (Ar.isSg c d = true → opS (Ar.opc2 c d) = ⟨#[c]⟩) := by
  by_cases hc : c ∈ S15
  · by_cases hd : d ∈ S5
    · exact sg_fin c (by simp [hc]) d (by simp [hd])
    · rw [isSg_d hd, opc2_d hd]
      exact sg_fin c (by simp [hc]) 0 (by simp)
  · rw [isSg_c hc, opc2_c hc]
    exact ⟨by simp, by simp⟩
theorem opc_fin : ∀ c ∈ (0 :: S15), ∀ d ∈ (0 :: S5), Ar.opc2 c d ≤ 22 := by decide +kernel
theorem opc_le (u : List UInt8) : Ar.opc u ≤ 22 := by
  show Ar.opc2 (u.headD 0) (u.tail.headD 0) ≤ 22
  generalize u.headD 0 = c
  generalize u.tail.headD 0 = d
  by_cases hc : c ∈ S15
  · by_cases hd : d ∈ S5
    · exact opc_fin c (by simp [hc]) d (by simp [hd])
    · rw [opc2_d hd]
      exact opc_fin c (by simp [hc]) 0 (by simp)
  · rw [opc2_c hc]
    omega
theorem opS_no : ∀ c, c ≤ 22 → ¬ (c = 14 ∨ c = 15 ∨ c = 19 ∨ c = 20) → ((opS c).toList == [43]) = false ∧ ((opS c).toList == [45]) = false ∧ ((opS c).toList == [33]) = false ∧ ((opS c).toList == [126]) = false := by
  simp only [ByteArray.toList_eq]
  decide +kernel
theorem opc_at {s : ByteArray} {k : Nat} (h : k < s.size) : Ar.opc (dr s k) = Ar.opc2 s[k] ((dr s (k + 1)).headD 0) := by rw [dr_cons h]; rfl
theorem OwnS.gr {w w' : World} {base g : Nat} {v : Value} {L : List ByteArray} (h : OwnS w base v L) (hg : Gr w w' g) (hb : g < base) : OwnS w' base v L :=
  World.ownsRow.kept h hg (by
    rcases h' : v.ownBlock with _ | k
    · exact .inl rfl
    · exact .inr (by intro e; injection e with e; have := (World.ownsRow.lt h k h').1; omega))
theorem one_ne {c a : UInt8} (h : ¬ c = a) : ((⟨#[c]⟩ : ByteArray).toList == [a]) = false := by
  rw [ByteArray.toList_eq, beq_eq_false_iff_ne]
  intro e
  injection e with e _
  exact h e
/-- signs as texts -/
def sgT (l : List UInt8) : List ByteArray := l.map fun c => ⟨#[c]⟩
theorem app_grS {w wr w1 : World} {b : Value} {T : TypeId} {v : Value} {g : Nat} (hG : Gr w wr g) (h : (wr.alloc (.cells #[b] T)).grownBy w1 v.ownBlock) (hv : ∀ k, v.ownBlock = some k → w.heap.size ≤ k ∧ k < wr.heap.size) : Gr w w1 g :=
  app_gr (nq := 0) hG h hv
theorem app_keepS {wr w1 : World} {b : Value} {T : TypeId} {v : Value} {g : Nat} (h : (wr.alloc (.cells #[b] T)).grownBy w1 v.ownBlock) (hne : v.ownBlock ≠ some g) (hg : g < wr.heap.size) : w1.heap[g]? = wr.heap[g]? :=
  app_keep (nq := 0) h hne hg
set_option maxRecDepth 100000 in
set_option maxHeartbeats 4000000 in
theorem one_any7 (A : Option Addr) (P : List Pr) (c B g : Nat) (s : ByteArray) (d : Nat) (E : Ar.Ex) (hp : RPCon A P c B g s d E) (hB : B ≤ g) (hs : s.size ≤ 100000) (i : Nat) (z : Bool) (w : World) (h : RR w g s (.slice A P.length c) i d 0 z) (hP : PB w A P B) (hi : i ≤ s.size) :
    Calls Tryd.prog 27 #[.pointer (some ⟨g, 0, none⟩)] w fun e w' => REnd g s (.slice A P.length c) d w (Ar.una (KP P) E (dr s i) z) e w' := by
  have H := hide h
  have HC := hide hp
  have HP := hide hP
  have hgl := h.lt
  clear h hp hP
  go_enter Tryd.func27, Tryd.ntmps27
  go_wp2_with fail
  refine (sign_any g s _ i d 0 z w H.out hi hs).mono ?_
  rintro e w1 ⟨rfl, j, hr, hij, hj, hsk, hgr⟩
  rw [← hsk]
  have HR1 := hide hr
  have HS1 := hide hsk
  have HG1 := hide hgr
  clear hr hsk hgr H
  go_upto_block 0 with (fail)
  go_cut [3, 4] from 9 to 35 (fun v3 v4 wr => ∃ (k : Nat) (sg : List UInt8) (vs : Value), vs = v3 ∧ v4 = .string (opS (Ar.opc (dr s k))) ∧ RR wr g s (.slice A P.length c) k d 0 z ∧ k ≤ s.size ∧ Hid (Ar.sgn (dr s i) = (sg, dr s k) ∧ Ar.sk (dr s k) = dr s k) ∧ OwnS wr w.heap.size vs (sgT sg) ∧ sg.length ≤ k ∧ Gr w wr g)
  case first =>
    go_wp2
    go_loopg [3, 4] (s.size - j) (fun n v3 v4 wr => ∃ (k : Nat) (sg : List UInt8) (vs : Value), n = s.size - k ∧ vs = v3 ∧ v4 = .string (opS (Ar.opc (dr s k))) ∧ RR wr g s (.slice A P.length c) k d 0 z ∧ k ≤ s.size ∧ Hid (Ar.sk (dr s k) = dr s k ∧ Ar.sgn (dr s i) = (sg ++ (Ar.sgn (dr s k)).1, (Ar.sgn (dr s k)).2)) ∧ OwnS wr w.heap.size vs (sgT sg) ∧ sg.length ≤ k ∧ Gr w wr g)
    case atStart => exact ⟨j, [], _, rfl, rfl, rfl, HR1.out, hj, ⟨by rw [HS1.out, Ar.sk_sk], by rw [HS1.out, sgn_sk]; rfl⟩, OwnS.nil _ _, Nat.zero_le _, HG1.out⟩
    case round =>
      obtain ⟨k, sg, vs, hgk, rfl, rfl, hr, hk, HK, ho, hsl, hg⟩ := hrel
      have hc0 := hr.c0
      have hc2 := hr.c2
      have hf := hr.fz 2
      have HR := hide hr
      have HO := hide ho
      have HG := hide hg
      clear hr ho hg HR1 HS1 HG1
      obtain ⟨oc, hoc⟩ : ∃ oc, Ar.opc (dr s k) = oc := ⟨_, rfl⟩
      have HOC := hide hoc
      have hocl : oc ≤ 22 := by rw [← hoc]; exact opc_le _
      rw [hoc]
      clear hoc
      by_cases hsg : oc = 14 ∨ oc = 15 ∨ oc = 19 ∨ oc = 20
      · have hlt : k < s.size := by
          apply Classical.byContradiction
          intro hn
          have h1 := HOC.out
          rw [dr_nil (by omega)] at h1
          have : oc = 0 := h1.symm
          omega
        have hsgc : Ar.isSg s[k] ((dr s (k + 1)).headD 0) = true := (sg_all _ _).1.2 (by rw [← opc_at hlt, HOC.out]; exact hsg)
        have HT := hide (show opS oc = ⟨#[s[k]]⟩ by rw [← HOC.out, opc_at hlt]; exact (sg_all _ _).2 hsgc)
        have HON := hide (show Ar.sgn (dr s k) = (s[k] :: (Ar.sgn (Ar.sk (dr s (k + 1)))).1, (Ar.sgn (Ar.sk (dr s (k + 1)))).2) from sgn_on hlt HK.out.1 hsgc)
        have hbs : w.heap.size ≤ (wr.alloc (.cells #[.string (opS oc)] 9)).heap.size := by have := HG.out.size; simp; omega
        have hl1 : (sgT sg).length + [opS oc].length ≤ 1000000 := by simp [sgT]; omega
        have hgr := HR.out.lt
        have hvg : vs.ownBlock ≠ some g := fun e => by have := (OwnS.lt HO.out g e).1; omega
        obtain ⟨v1, w1, r1, o1, g1, b1⟩ := run_appS (c := 1) (OwnS.alloc HO.out (.cells #[.string (opS oc)] 9)) (sr_new wr (opS oc)) hbs hl1
        have zb := app_keepS g1 hvg hgr
        have HR1 := hide (HR.out.kept zb)
        have hc21 := HR1.out.c2
        have hf1 := HR1.out.fz 2
        have O1 := hide o1
        have G1 := hide (app_grS HG.out g1 (OwnS.lt HO.out))
        clear o1 g1 b1 zb hbs hl1 hvg hsgc
        rcases hsg with rfl | rfl | rfl | rfl
        · have t43 : ((opS 14).toList == [43]) = true := by rw [ByteArray.toList_eq]; rfl
          go_wp2_with (at_builtin; refine wpList_app_run ?_ (.tmp 23) (.tmp 25) ?_ ?_ ?_ ?_ r1 ?_; exact rfl; exact rfl; exact rfl; exact rfl; exact rfl)
          refine (sign_any g s _ (k + 1) d 0 z _ (HR1.out.seti (k + 1)) (by omega) hs).mono ?_
          rintro e w2 ⟨rfl, k2, hr2, hk12, hk2, hsk2, hg2⟩
          rw [← hsk2]
          have HR2 := hide hr2
          have HS2 := hide hsk2
          have HG2 := hide (gb_trans (gb_setCell G1.out 2 _) hg2)
          have HO2 := hide (OwnS.gr (OwnS.gr O1.out (gb_setCell (Gr.refl _ g) 2 _) hgl) hg2 hgl)
          clear hr2 hsk2 hg2
          go_wp2
          go_roundg (s.size - k2)
          case rel => exact ⟨k2, sg ++ [s[k]], v1, rfl, rfl, rfl, HR2.out, hk2, ⟨by rw [HS2.out, Ar.sk_sk], by rw [HK.out.2, HON.out, HS2.out, List.append_assoc]; rfl⟩, by have h1 := HO2.out; rw [HT.out] at h1; rw [sgT, List.map_append]; exact h1, by simp; omega, HG2.out⟩
          case measure => omega
        · have t43 : ((opS 15).toList == [43]) = false := by rw [ByteArray.toList_eq]; rfl
          have t45 : ((opS 15).toList == [45]) = true := by rw [ByteArray.toList_eq]; rfl
          go_wp2_with (at_builtin; refine wpList_app_run ?_ (.tmp 23) (.tmp 25) ?_ ?_ ?_ ?_ r1 ?_; exact rfl; exact rfl; exact rfl; exact rfl; exact rfl)
          refine (sign_any g s _ (k + 1) d 0 z _ (HR1.out.seti (k + 1)) (by omega) hs).mono ?_
          rintro e w2 ⟨rfl, k2, hr2, hk12, hk2, hsk2, hg2⟩
          rw [← hsk2]
          have HR2 := hide hr2
          have HS2 := hide hsk2
          have HG2 := hide (gb_trans (gb_setCell G1.out 2 _) hg2)
          have HO2 := hide (OwnS.gr (OwnS.gr O1.out (gb_setCell (Gr.refl _ g) 2 _) hgl) hg2 hgl)
          clear hr2 hsk2 hg2
          go_wp2
          go_roundg (s.size - k2)
          case rel => exact ⟨k2, sg ++ [s[k]], v1, rfl, rfl, rfl, HR2.out, hk2, ⟨by rw [HS2.out, Ar.sk_sk], by rw [HK.out.2, HON.out, HS2.out, List.append_assoc]; rfl⟩, by have h1 := HO2.out; rw [HT.out] at h1; rw [sgT, List.map_append]; exact h1, by simp; omega, HG2.out⟩
          case measure => omega
        · have t43 : ((opS 19).toList == [43]) = false := by rw [ByteArray.toList_eq]; rfl
          have t45 : ((opS 19).toList == [45]) = false := by rw [ByteArray.toList_eq]; rfl
          have t33 : ((opS 19).toList == [33]) = true := by rw [ByteArray.toList_eq]; rfl
          go_wp2_with (at_builtin; refine wpList_app_run ?_ (.tmp 23) (.tmp 25) ?_ ?_ ?_ ?_ r1 ?_; exact rfl; exact rfl; exact rfl; exact rfl; exact rfl)
          refine (sign_any g s _ (k + 1) d 0 z _ (HR1.out.seti (k + 1)) (by omega) hs).mono ?_
          rintro e w2 ⟨rfl, k2, hr2, hk12, hk2, hsk2, hg2⟩
          rw [← hsk2]
          have HR2 := hide hr2
          have HS2 := hide hsk2
          have HG2 := hide (gb_trans (gb_setCell G1.out 2 _) hg2)
          have HO2 := hide (OwnS.gr (OwnS.gr O1.out (gb_setCell (Gr.refl _ g) 2 _) hgl) hg2 hgl)
          clear hr2 hsk2 hg2
          go_wp2
          go_roundg (s.size - k2)
          case rel => exact ⟨k2, sg ++ [s[k]], v1, rfl, rfl, rfl, HR2.out, hk2, ⟨by rw [HS2.out, Ar.sk_sk], by rw [HK.out.2, HON.out, HS2.out, List.append_assoc]; rfl⟩, by have h1 := HO2.out; rw [HT.out] at h1; rw [sgT, List.map_append]; exact h1, by simp; omega, HG2.out⟩
          case measure => omega
        · have t43 : ((opS 20).toList == [43]) = false := by rw [ByteArray.toList_eq]; rfl
          have t45 : ((opS 20).toList == [45]) = false := by rw [ByteArray.toList_eq]; rfl
          have t33 : ((opS 20).toList == [33]) = false := by rw [ByteArray.toList_eq]; rfl
          have t126 : ((opS 20).toList == [126]) = true := by rw [ByteArray.toList_eq]; rfl
          go_wp2_with (at_builtin; refine wpList_app_run ?_ (.tmp 23) (.tmp 25) ?_ ?_ ?_ ?_ r1 ?_; exact rfl; exact rfl; exact rfl; exact rfl; exact rfl)
          refine (sign_any g s _ (k + 1) d 0 z _ (HR1.out.seti (k + 1)) (by omega) hs).mono ?_
          rintro e w2 ⟨rfl, k2, hr2, hk12, hk2, hsk2, hg2⟩
          rw [← hsk2]
          have HR2 := hide hr2
          have HS2 := hide hsk2
          have HG2 := hide (gb_trans (gb_setCell G1.out 2 _) hg2)
          have HO2 := hide (OwnS.gr (OwnS.gr O1.out (gb_setCell (Gr.refl _ g) 2 _) hgl) hg2 hgl)
          clear hr2 hsk2 hg2
          go_wp2
          go_roundg (s.size - k2)
          case rel => exact ⟨k2, sg ++ [s[k]], v1, rfl, rfl, rfl, HR2.out, hk2, ⟨by rw [HS2.out, Ar.sk_sk], by rw [HK.out.2, HON.out, HS2.out, List.append_assoc]; rfl⟩, by have h1 := HO2.out; rw [HT.out] at h1; rw [sgT, List.map_append]; exact h1, by simp; omega, HG2.out⟩
          case measure => omega
      · obtain ⟨t43, t45, t33, t126⟩ := opS_no oc hocl hsg
        have HOF := hide (show Ar.sgn (dr s k) = ([], dr s k) by
          by_cases hlt : k < s.size
          · refine sgn_off hlt HK.out.1 ?_
            cases hh : Ar.isSg s[k] ((dr s (k + 1)).headD 0) with
            | false => rfl
            | true => exact absurd ((sg_all _ _).1.1 hh) (by rw [← opc_at hlt, HOC.out]; exact hsg)
          · exact sgn_end (by omega))
        clear hsg
        go_wp2
        go_meet
        exact ⟨k, sg, vs, rfl, by rw [HOC.out], HR.out, hk, ⟨by rw [HK.out.2, HOF.out, List.append_nil], HK.out.1⟩, HO.out, hsl, HG.out⟩
  case rest =>
    obtain ⟨k, sg, vs, rfl, rfl, hr, hk, HK, ho, hsl, hg⟩ := hcut
    have hPk := HP.out.kept hg hB
    have hcall := HC.out k z wc hr hPk hk HK.out.2
    have HU := hide (show Ar.una (KP P) E (dr s i) z = Ar.bd (Ar.prim (KP P) E (dr s k) z) fun x => .ok (sg.foldr apV x.1, x.2.1, x.2.2) by rw [Ar.una, HK.out.1]; rfl)
    have HO := hide ho
    have HG := hide hg
    clear hr ho hg hPk HK HR1 HS1 HG1
    go_wp2_with fail
    refine hcall.mono ?_
    rintro e w2 hend
    clear hcall
    obtain ⟨v, rfl, hg2, hfin⟩ := hend.ret
    have HFIN := hide ((hfin (sg.foldr apV)).gr HG.out)
    obtain ⟨A2, c2, rfl, _, hsr, _⟩ := (HO.out.gr hg2 hgl).slice
    have HCE := hide hsr
    have hsl2 : sg.length ≤ 100000 := by omega
    have hlT : (sgT sg).length = sg.length := by simp [sgT]
    rw [hlT]
    clear hend hfin hg2 hsr HO HG hlT
    go_wp2
    go_loop [5, 6] (fun v5 v6 => ∃ (q : Nat) (m : Int), v6 = .int .i64 ((q : Int) - 1) ∧ q ≤ sg.length ∧ v5 = .int .i64 m ∧ Hid ((sg.take q).foldr apV m = sg.foldr apV v)) (fun _ v6 => (intOf v6 + 1).toNat)
    case atStart => exact ⟨sg.length, v, by simp, Nat.le_refl _, rfl, by rw [List.take_length]; exact rfl⟩
    case round =>
      obtain ⟨q, m, rfl, hq, rfl, HF⟩ := hrel
      by_cases hq0 : 0 < q
      · obtain ⟨q, rfl⟩ : ∃ q', q = q' + 1 := ⟨q - 1, by omega⟩
        obtain ⟨c, hc⟩ : ∃ c, sg[q]? = some c := ⟨sg[q]'(by omega), List.getElem?_eq_getElem _⟩
        obtain ⟨ga, oa, rfl, hga, hcell⟩ := HCE.out q ⟨#[c]⟩ (by rw [sgT, List.getElem?_map, hc]; rfl)
        have HF2 := hide (show (sg.take q).foldr apV (apV c m) = sg.foldr apV v by rw [← HF.out, List.take_add_one, hc]; simp)
        clear hc
        rw [show ((q + 1 : Nat) : Int) - 1 = (q : Int) by omega]
        by_cases h1 : c = 45
        · have t45 : (c == 45) = true := by rw [h1]; rfl
          have t33 : (c == 33) = false := by rw [h1]; rfl
          have t126 : (c == 126) = false := by rw [h1]; rfl
          have HA := hide (show apV c m = wrap64 (-m) by rw [h1]; rfl)
          clear h1
          go_wp2
          go_round
          case rel => exact ⟨q, _, rfl, by omega, rfl, by rw [← HF2.out, HA.out]; exact rfl⟩
          case measure => simp [intOf]
        · have n1 := h1
          clear h1
          by_cases h1 : c = 33
          · have t45 : (c == 45) = false := by rw [h1]; rfl
            have t33 : (c == 33) = true := by rw [h1]; rfl
            have t126 : (c == 126) = false := by rw [h1]; rfl
            have HA := hide (show apV c m = trI (m == 0) by rw [h1]; rfl)
            clear h1
            go_wp2_with fail
            refine (rtruth_any (m == 0) _).mono ?_
            rintro e w' ⟨rfl, rfl⟩
            go_wp2
            go_round
            case rel => exact ⟨q, _, rfl, by omega, rfl, by rw [← HF2.out, HA.out]; exact rfl⟩
            case measure => simp [intOf]
          · have n2 := h1
            clear h1
            by_cases h1 : c = 126
            · have t45 : (c == 45) = false := by rw [h1]; rfl
              have t33 : (c == 33) = false := by rw [h1]; rfl
              have t126 : (c == 126) = true := by rw [h1]; rfl
              have HA := hide (show apV c m = bits .xor .i64 (-1) m by rw [h1]; rfl)
              clear h1
              go_wp2
              go_round
              case rel => exact ⟨q, _, rfl, by omega, rfl, by rw [← HF2.out, HA.out]; exact rfl⟩
              case measure => simp [intOf]
            · have n3 := h1
              clear h1
              have t45 : (c == 45) = false := by simpa using n1
              have t33 : (c == 33) = false := by simpa using n2
              have t126 : (c == 126) = false := by simpa using n3
              have HA := hide (show apV c m = m by rw [apV, if_neg n1, if_neg n2, if_neg n3])
              clear n1 n2 n3
              go_wp2
              go_round
              case rel => exact ⟨q, _, rfl, by omega, rfl, by rw [← HF2.out, HA.out]; exact rfl⟩
              case measure => simp [intOf]
      · obtain rfl : q = 0 := by omega
        have hd : decide ((0 : Int) ≤ ((0 : Nat) : Int) - 1) = false := by decide
        have HFF := hide (show m = sg.foldr apV v from HF.out)
        go_wp2
        go_ret
        rw [HU.out]
        have h1 := HFIN.out
        rw [← HFF.out] at h1
        exact h1
end Go.Proofs.YtpjbklajjikgjaaDoor
