/- Walks and plain facts that the claim uses. -/
import Derived.Test.YtpheeheikigenaaGreatDoorRA2
import Derived.Lib.SlBytesConst
import Derived.Deep.SlicePairs
import Derived.OpenShut
import Derived.ProofKit
import Derived.SliceStrings
import Derived.Test.YtpheeheikigenaaGreatDoorProg
import Derived.SizedLaws
set_option maxRecDepth 100000
set_option maxHeartbeats 16000000
set_option linter.unusedSimpArgs false
set_option linter.unusedVariables false
namespace Go.Proofs.YtpheeheikigenaaGreatDoor
section
open Go.RowKit Go.Deep Go.Maps Ln Pth Vf Rd Mc
theorem rmkS (w : World) : (Instr.makeMap 76 none).run Tryz.prog w = .ok (.map (some w.heap.size)) (w.alloc (.map #[] 0)) := by kernel_rfl
theorem rmkB (w : World) : (Instr.makeMap 77 none).run Tryz.prog w = .ok (.map (some w.heap.size)) (w.alloc (.map #[] 0)) := by kernel_rfl
attribute [local go_sem] rmkS rmkB
theorem leaves_congr {P : Program} {fn : Func} {t1 t2 : Array Value} {R : Ending → World → Prop} (h : results fn t1 = results fn t2) : ∀ (ds : List Deferred) (u : FrameMode) (w : World), Leaves P fn t1 R ds u w → Leaves P fn t2 R ds u w
 | [], .returning, w, ⟨v, e, r⟩ => ⟨v, h ▸ e, r⟩
 | [], .panicking chain, w, q => q
 | [], .run, w, q => q
 | d :: ds, u, w, ⟨hu, fv, cap, f, args, h1, h2, h3⟩ => ⟨hu, fv, cap, f, args, h1, h2, h3.mono fun e u' w' q => by
   cases e with
   | returned v => exact leaves_congr h ds _ _ q
   | panicked c => exact leaves_congr h ds _ _ q
   | outgrown => exact q⟩
theorem res_put (t : Array Value) (d : Nat) (v : Value) (h : d ≠ 8 ∧ d ≠ 9) : results Tryz.f13 (t.setIfInBounds d v) = results Tryz.f13 t := by
 have e : ∀ k, k ≠ d → (t.setIfInBounds d v)[k]? = t[k]? := fun k hk => Array.getElem?_setIfInBounds_ne (Ne.symm hk)
 simp [results, Tryz.results13, e 8 (fun q => h.1 q.symm), e 9 (fun q => h.2 q.symm)]
theorem bpdR {R : Ending → World → Prop} {d : Nat} {v : Value} {c : List PanicEntry} {a : Act} {w : World} (hd : d ≠ 8 ∧ d ≠ 9) (h : bodyPostD Tryz.prog Tryz.f13 R (.panic c) (a.put (some d) v) w) : bodyPostD Tryz.prog Tryz.f13 R (.panic c) a w :=
 leaves_congr (res_put a.tmps d v hd) _ _ _ h
def MkEnd (w : World) (r : Except Nat Sx) (e : Ending) (w' : World) : Prop := (match r with
 | .error c => e = .returned (.tuple #[.agg #[.slice none 0 0, .slice none 0 0], .int .i64 c])
 | .ok s => ∃ pA pc rA rc rl, e = .returned (.tuple #[.agg #[.slice pA s.mac.length pc, .slice rA s.rules.length rc], .int .i64 0]) ∧ PR w' pA s.mac ∧ RG encRl 3 w' rA rl ∧ rl.map outR = s.rules.map ofRS ∧ ∀ r ∈ rl, SR w' r.tg.1 r.tg.2.2 ∧ SR w' r.nd.1 r.nd.2.2 ∧ SR w' r.rc.1 r.rc.2.2) ∧ Below w.heap.size w w'
theorem zeroS_bd : Bd zeroS 0 := ⟨fun x hx => (by cases hx), fun x hx => (by cases hx), RiseG.nil, by simp [zeroS], fun r hr => (by cases hr), by simp [zeroS], by simp [zeroS]⟩
def givP (s : Sx) (p : ByteArray × ByteArray) : Sx := if nameF p.1.data.toList then { s with mac := putG p s.mac, giv := s.giv ++ [p.1.data.toList] } else s
def givG (G : KV ByteArray) : Sx := G.foldl givP zeroS
theorem givG_snoc (G : KV ByteArray) (p : ByteArray × ByteArray) : givG (G ++ [p]) = givP (givG G) p := by simp [givG, List.foldl_append]
theorem nameF_len {t : T} (h : nameF t = true) : t.length ≤ 60 := by
 unfold nameF at h
 simp only [Bool.and_eq_true, decide_eq_true_eq] at h
 exact h.1.2
theorem givP_bd {s : Sx} (h : Bd s 0) (p : ByteArray × ByteArray) (hv : p.2.size ≤ 40000) (n : Nat) (hc : s.mac.length ≤ n) (hg : s.giv.length ≤ n) (hn : n < 1000) (hf : s.files = 0) : Bd (givP s p) 0 ∧ (givP s p).mac.length ≤ n + 1 ∧ (givP s p).giv.length ≤ n + 1 ∧ (givP s p).files = 0 := by
 unfold givP
 by_cases hx : nameF p.1.data.toList = true
 · rw [if_pos hx]
   have hl := nameF_len hx
   have hlen : (putG p s.mac).length ≤ n + 1 := by
     rw [putG_len _ h.rise]
     split <;> omega
   refine ⟨⟨fun x hx => ?_, fun x hx => ?_, h.rise.put _, Nat.le_trans hlen (by omega), h.rc, h.rl, h.fl⟩, hlen, ?_, hf⟩
   · rcases mem_putG hx with rfl | hx
     · omega
     · exact h.mac x hx
   · rcases mem_putG hx with rfl | hx
     · rw [data_len] at hl; exact hl
     · exact h.nam x hx
   · simp; omega
 · rw [if_neg hx]
   exact ⟨h, by omega, by omega, hf⟩
theorem givG_bd : ∀ (G : KV ByteArray), (∀ x ∈ G, x.2.size ≤ 40000) → ∀ n ≤ 1000, n ≤ G.length → Bd (givG (G.take n)) 0 ∧ (givG (G.take n)).mac.length ≤ n ∧ (givG (G.take n)).giv.length ≤ n ∧ (givG (G.take n)).files = 0
 | G, h, 0, _, _ => by
   rw [List.take_zero]
   exact ⟨zeroS_bd, by simp [givG, zeroS], by simp [givG, zeroS], rfl⟩
 | G, h, n + 1, hn, hg => by
   obtain ⟨h1, h2, h3, h4⟩ := givG_bd G h n (by omega) (by omega)
   have e : G.take (n + 1) = G.take n ++ [G[n]] := by rw [List.take_succ_eq_append_getElem (by omega)]
   rw [e, givG_snoc]
   exact givP_bd h1 _ (h _ (List.getElem_mem _)) n h2 h3 (by omega) h4
theorem nostr {w : World} {z : Nat} {cs : Array Value} {T : TypeId} {r : Nat × Nat} (h : w.heap[z]? = some (.cells cs T r)) (hc : ∀ v ∈ cs.toList, ∀ s, v ≠ .string s) : ∀ j s, w.cell? ⟨z, j, none⟩ ≠ some (.string s) := by
 intro j s e
 unfold World.cell? at e
 simp only [h] at e
 have : cs[j]? = some (.string s) := e
 exact hc _ (by simpa using Array.mem_of_getElem? this) s rfl
theorem SR.far {w w' : World} {A : Option Addr} {L : List ByteArray} (h : SR w A L) (hs : w.heap.size ≤ w'.heap.size) (Z : Nat → Prop) (hk : ∀ k, k < w.heap.size → ¬ Z k → w'.heap[k]? = w.heap[k]?) (hz : ∀ z, Z z → ∀ j s, w.cell? ⟨z, j, none⟩ ≠ some (.string s)) : SR w' A L :=
 h.ofK hs fun a e hne hl => hk _ hl fun hZ => by
   cases L with
   | nil => exact hne rfl
   | cons x L =>
     obtain ⟨g, o, e2, hg, h1⟩ := h 0 x rfl
     rw [e] at e2
     injection e2 with e2
     subst e2
     exact hz _ hZ _ _ h1
theorem PR.far {w w' : World} {A : Option Addr} {P : List Pr} (h : PR w A P) (hs : w.heap.size ≤ w'.heap.size) (Z : Nat → Prop) (hk : ∀ k, k < w.heap.size → ¬ Z k → w'.heap[k]? = w.heap[k]?) (hz : ∀ z, Z z → ∀ j s, w.cell? ⟨z, j, none⟩ ≠ some (.string s)) : PR w' A P := by
 cases P with
 | nil => exact PR.nil _ _
 | cons x P =>
   refine h.of hs fun a e hl => hk _ hl fun hZ => ?_
   obtain ⟨g, o, e2, hg, h1, _⟩ := h 0 x rfl
   rw [e] at e2
   injection e2 with e2
   subst e2
   exact hz _ hZ _ _ h1
theorem RD.told {w0 w w' : World} {C : Rk} {g : Nat} {s : Sx} {deep : Int} {S : Nat → Prop} (h : RD w0 C g s deep S w) {A : Option Addr} {n c : Nat} (h4 : w.cell? ⟨g, 4, none⟩ = some (.slice A n c)) (hs : w.heap.size ≤ w'.heap.size) (Z : Nat → Prop) (hZ : ∀ k, Z k → k < w0.heap.size) (hk : ∀ k, k < w.heap.size → ¬ Z k → w'.heap[k]? = w.heap[k]?) (hz : ∀ z, Z z → ∀ j s, w.cell? ⟨z, j, none⟩ ≠ some (.string s)) :
   ∃ rl, n = s.rules.length ∧ RG encRl 3 w' A rl ∧ rl.map outR = s.rules.map ofRS ∧ ∀ r ∈ rl, SR w' r.tg.1 r.tg.2.2 ∧ SR w' r.nd.1 r.nd.2.2 ∧ SR w' r.rc.1 r.rc.2.2 := by
 obtain ⟨vr, rl, h1, h2, h3, h5, h6, h7, h8⟩ := h.body
 have e : vr = .slice A n c := by
   have : w.cell? ⟨g, 4, none⟩ = some vr := cellOf h1 rfl
   rw [this] at h4
   exact Option.some.inj h4
 subst e
 have h2' : OwnG encRl 3 ruty w' w0.heap.size (.slice A n c) rl := ownsRow_of h2 fun k e => hk k (h.sw k (h3 k e).1).2 fun q => by have := hZ k q; have := (h.sw k (h3 k e).1).1; omega
 obtain ⟨A', c', e, _, hr, _, _⟩ := h2'.slice encRl_len
 injection e with e1 e2 e3
 subst e1
 refine ⟨rl, e2.trans (rl_len h5), hr, h5, fun r hr => ⟨(h6 r hr).1.1.far hs Z hk hz, (h6 r hr).2.1.far hs Z hk hz, ?_⟩⟩
 have hsp : r ∈ rl.dropLast ∨ rl.getLast? = some r := by
   have hne : rl ≠ [] := by rintro rfl; cases hr
   have e := List.dropLast_concat_getLast hne
   rw [← e] at hr
   rcases List.mem_append.1 hr with q | q
   · exact .inl q
   · exact .inr (by rw [List.getLast?_eq_some_getLast hne, List.mem_singleton.1 q])
 rcases hsp with q | q
 · exact (h7 r q).1.far hs Z hk hz
 · obtain ⟨A', c', e, _, hs', _⟩ := (h8 r q).1.slice
   unfold sv at e
   injection e with e1 e2 e3
   subst e1
   exact hs'.far hs Z hk hz
theorem rread_any (gf : Nat) (fs : St) (cwd t : T) (w : World) (hfs : Hs (VS gf fs) w) (hwf : WfS fs) (hm : MX w) (hc : cwd.length ≤ 6600000) (ht : t.length ≤ 9000000000000000000)
   (G : KV ByteArray) (gA : Option Addr) (gc : Nat) (hG : PR w gA G) (hGl : G.length ≤ 900) (hGs : ∀ x ∈ G, x.1.size ≤ 1000000 ∧ x.2.size ≤ 40000) :
   Calls Tryz.prog 13 #[.pointer (some ⟨gf, 0, none⟩), .string (bs cwd), .string (bs t), .slice gA G.length gc] w (MkEnd w (textR fs cwd 10 (givG G) t)) := by
 have hmf : ∀ (fn : Fn) (first cap : Array Value) (w : World), (Instr.makeFunc fn first cap).run Tryz.prog w = .ok (.func fn first cap) w := fun _ _ _ _ => rfl
 have hb2 : Below w.heap.size w ((w.alloc (.cells #[.slice none 0 0, .slice none 0 0] 28)).alloc (.cells #[.int .i64 0] 29)) := ((Below.refl _ _).alloc (Nat.le_refl _) _).alloc (by simp) _
 have hz : ((w.alloc (.cells #[.slice none 0 0, .slice none 0 0] 28)).alloc (.cells #[.int .i64 0] 29)).heap.size = w.heap.size + 2 := by simp
 have hp0 : ((w.alloc (.cells #[.slice none 0 0, .slice none 0 0] 28)).alloc (.cells #[.int .i64 0] 29)).cell? ⟨w.heap.size, 0, none⟩ = some (.slice none 0 0) := by simp [go_sem]
 have hp1 : ((w.alloc (.cells #[.slice none 0 0, .slice none 0 0] 28)).alloc (.cells #[.int .i64 0] 29)).cell? ⟨w.heap.size, 1, none⟩ = some (.slice none 0 0) := by simp [go_sem]
 have hq0 : ((w.alloc (.cells #[.slice none 0 0, .slice none 0 0] 28)).alloc (.cells #[.int .i64 0] 29)).cell? ⟨w.heap.size + 1, 0, none⟩ = some (.int .i64 0) := by simp [go_sem]
 have zp0 : ((w.alloc (.cells #[.slice none 0 0, .slice none 0 0] 28)).alloc (.cells #[.int .i64 0] 29)).frozen? ⟨w.heap.size, 0, none⟩ = false := by simp [go_sem]
 have zp1 : ((w.alloc (.cells #[.slice none 0 0, .slice none 0 0] 28)).alloc (.cells #[.int .i64 0] 29)).frozen? ⟨w.heap.size, 1, none⟩ = false := by simp [go_sem]
 have zq0 : ((w.alloc (.cells #[.slice none 0 0, .slice none 0 0] 28)).alloc (.cells #[.int .i64 0] 29)).frozen? ⟨w.heap.size + 1, 0, none⟩ = false := by simp [go_sem]
 have hh0 : ((w.alloc (.cells #[.slice none 0 0, .slice none 0 0] 28)).alloc (.cells #[.int .i64 0] 29)).heap[w.heap.size]? = some (.cells #[.slice none 0 0, .slice none 0 0] 28) := (Below.heap_alloc _ _ _ (by simp)).trans (heapNew w _)
 have hh1 : ((w.alloc (.cells #[.slice none 0 0, .slice none 0 0] 28)).alloc (.cells #[.int .i64 0] 29)).heap[w.heap.size + 1]? = some (.cells #[.int .i64 0] 29) := by
   have := heapNew (w.alloc (.cells #[.slice none 0 0, .slice none 0 0] 28)) (.cells #[.int .i64 0] 29)
   simpa using this
 obtain ⟨wb, hwb⟩ : ∃ W, (w.alloc (.cells #[.slice none 0 0, .slice none 0 0] 28)).alloc (.cells #[.int .i64 0] 29) = W := ⟨_, rfl⟩
 rw [hwb] at hp0 hp1 hq0 zp0 zp1 zq0 hb2 hz hh0 hh1
 have HH := hide (And.intro hh0 hh1)
 have HWB := hide hwb
 have HB2 := hide hb2
 have HP := hide (And.intro (And.intro hp0 hp1) (And.intro hq0 (And.intro zp0 (And.intro zp1 zq0))))
 have hrd := RD.made wb gf cwd
 have hrf : RF wb ⟨gf, cwd, wb.heap.size, wb.heap.size + 1⟩ fs := ⟨hm.below hb2, hfs.below (VS.fr gf fs) hb2, hwf, hc⟩
 have HPR := hide (show ∀ W, Below wb.heap.size wb W → PR W gA G from fun W hb => (hG.below hb2).below hb)
 obtain ⟨wx, hwx⟩ : ∃ W, ((wb.alloc (.map #[] 0)).alloc (.map #[] 0)).alloc (.cells (rcells ⟨gf, cwd, wb.heap.size, wb.heap.size + 1⟩ (.slice none 0 0) 0 0) rty) = W := ⟨_, rfl⟩
 rw [hwx] at hrd
 have HWX := hide hwx
 have HRF := hide hrf
 have HGB := hide (givG_bd G (fun x hx => (hGs x hx).2))
 have HGS := hide hGs
 have HTX := hide (fun W (hrd : RD wb ⟨gf, cwd, wb.heap.size, wb.heap.size + 1⟩ (wb.heap.size + 2) (givG G) 0 (fun k => wb.heap.size ≤ k ∧ k < wb.heap.size + 3) W) (hbd : Bd (givG G) 0) => rtext_all wb _ (wb.heap.size + 2) fs hrf 10 (by omega) (givG G) _ W 0 t hrd hbd (by unfold Qs; omega) ht)
 obtain ⟨R, hR⟩ : ∃ z, textR fs cwd 10 (givG G) t = z := ⟨_, rfl⟩
 dsimp only at HTX
 have HKE := hide (fun sf (h : R = .ok sf) => by
   obtain ⟨k', hb, _⟩ := keeps_text fs cwd 10 (givG G) 0 t sf (by
     have := (givG_bd G (fun x hx => (hGs x hx).2) G.length (by omega) (Nat.le_refl _)).1
     rwa [List.take_length] at this) (hR.trans h)
   exact hb.cnt)
 rw [hR] at HTX ⊢
 have HRD := hide hrd
 obtain ⟨n, hn⟩ : ∃ n, G.length = n := ⟨_, rfl⟩
 have HN := hide hn
 rw [hn] at hGl ⊢
 have HZ := hide hz
 clear hrd hrf hm hfs hwf hb2 hwb hwx hR hG hGs hn hp0 hp1 hq0 zp0 zp1 zq0 hh0 hh1
 go_enter_defers Tryz.func13, Tryz.ntmps13
 go_wp2
 rw [HWB.out]
 rw [show w.heap.size + 1 + 1 = wb.heap.size from HZ.out.symm, show wb.heap.size + 1 + 1 = wb.heap.size + 2 from rfl]
 rw [show ((wb.alloc (.map #[] 0)).alloc (.map #[] 0)).alloc (.cells #[.pointer (some ⟨gf, 0, none⟩), .string (bs cwd), .map (some wb.heap.size), .map (some (wb.heap.size + 1)), .slice none 0 0, .int .i64 0, .int .i64 0] rty) = wx from HWX.out]
 obtain ⟨bm, hbm⟩ : ∃ z, wb.heap.size = z := ⟨_, rfl⟩
 have HBM := hide hbm
 rw [hbm] at HTX HRD ⊢
 obtain ⟨S, hS⟩ : ∃ z, (fun k => bm ≤ k ∧ k < bm + 3) = z := ⟨_, rfl⟩
 have HS := hide hS
 rw [hS] at HTX HRD
 clear hbm hS
 go_loopw [12, 21] (fun _ v21 wr => ∃ i : Nat, v21 = .int .i64 i ∧ i ≤ n ∧ Hid (RD wb ⟨gf, cwd, bm, bm + 1⟩ (bm + 2) (givG (G.take i)) 0 S wr)) (fun _ v21 _ => n - (intOf v21).toNat)
 case atStart => exact ⟨0, rfl, by omega, by rw [List.take_zero]; exact HRD⟩
 case round =>
   obtain ⟨i, rfl, hi, HI⟩ := hrel
   by_cases hlt : i < n
   case neg =>
     obtain rfl : i = n := by omega
     have hb := (HGB.out i (by omega) (by have := HN.out; omega)).1
     rw [List.take_of_length_le (by have := HN.out; omega)] at HI hb
     have HTT := hide (HTX.out _ HI.out hb)
     clear hb
     go_wp2_with fail
     refine HTT.out.mono ?_
     rintro e w2 hend
     unfold XE at hend
     rcases R with c | sf
     · dsimp only at hend
       obtain ⟨rfl, s', dx, S', hrd, _⟩ := hend
       have HBF := hide (HB2.out.trans (hrd.below.mono (by have := HZ.out; omega)))
       have hk : ∀ k, k < w.heap.size + 2 → w2.heap[k]? = wb.heap[k]? := fun k hk => hrd.below.block k (by have := HZ.out; omega)
       have hp2 := (World.cell?_of_block (a := ⟨w.heap.size, 0, none⟩) (hk w.heap.size (by omega))).trans HP.out.1.1
       have hp21 := (World.cell?_of_block (a := ⟨w.heap.size, 1, none⟩) (hk w.heap.size (by omega))).trans HP.out.1.2
       have hq2 := (World.cell?_of_block (a := ⟨w.heap.size + 1, 0, none⟩) (hk (w.heap.size + 1) (by omega))).trans HP.out.2.1
       have zp2 := (World.frozen?_of_block (a := ⟨w.heap.size, 0, none⟩) (hk w.heap.size (by omega))).trans HP.out.2.2.1
       have zp21 := (World.frozen?_of_block (a := ⟨w.heap.size, 1, none⟩) (hk w.heap.size (by omega))).trans HP.out.2.2.2.1
       have zq2 := (World.frozen?_of_block (a := ⟨w.heap.size + 1, 0, none⟩) (hk (w.heap.size + 1) (by omega))).trans HP.out.2.2.2.2
       clear hrd hk HTT HI HTX
       refine leaves_cons (f := 36) (args := #[.pointer (some ⟨w.heap.size, 0, none⟩), .pointer (some ⟨w.heap.size + 1, 0, none⟩)]) (by simp) (by simp [go_sem]) ?_
       refine (rcatch_panicking w.heap.size (w.heap.size + 1) _ _ _ c w2 hp2 hp21 hq2 zp2 zp21 zq2 (by omega)).mono ?_
       rintro e u' w3 ⟨rfl, rfl, hp3, hp31, hq3, hb3⟩
       simp [Leaves, settle, results, Tryz.results13, go_sem, hp3, hp31, hq3]
       exact ⟨rfl, HBF.out.trans (hb3.mono (by have := HBF.out.size; omega))⟩
     · dsimp only at hend
       obtain ⟨rfl, S', hrd, _⟩ := hend
       have HRDE := hide hrd
       obtain ⟨rA, rc, _, _, _, _, hc4, _⟩ := hrd.cells
       have hml : sf.mac.length ≤ 10000 := Nat.le_trans (HKE.out sf rfl) (by decide)
       have HPA := hide (fun W (hb : Below w2.heap.size w2 W) => pairs_any _ _ _ sf _ _ W (hrd.step hb) hml)
       obtain ⟨nr, hnr⟩ : ∃ z, sf.rules.length = z := ⟨_, rfl⟩
       rw [hnr] at hc4
       have HC4 := hide hc4
       have HRL := hide hrd.lt
       have HBF := hide (HB2.out.trans (hrd.below.mono (by have := HZ.out; omega)))
       have hk : ∀ k, k < w.heap.size + 2 → w2.heap[k]? = wb.heap[k]? := fun k hk => hrd.below.block k (by have := HZ.out; omega)
       have hp2 := (World.cell?_of_block (a := ⟨w.heap.size, 0, none⟩) (hk w.heap.size (by omega))).trans HP.out.1.1
       have hp21 := (World.cell?_of_block (a := ⟨w.heap.size, 1, none⟩) (hk w.heap.size (by omega))).trans HP.out.1.2
       have hq2 := (World.cell?_of_block (a := ⟨w.heap.size + 1, 0, none⟩) (hk (w.heap.size + 1) (by omega))).trans HP.out.2.1
       have zp2 := (World.frozen?_of_block (a := ⟨w.heap.size, 0, none⟩) (hk w.heap.size (by omega))).trans HP.out.2.2.1
       have zp21 := (World.frozen?_of_block (a := ⟨w.heap.size, 1, none⟩) (hk w.heap.size (by omega))).trans HP.out.2.2.2.1
       have zq2 := (World.frozen?_of_block (a := ⟨w.heap.size + 1, 0, none⟩) (hk (w.heap.size + 1) (by omega))).trans HP.out.2.2.2.2
       have HZL := hide (show w.heap.size + 2 ≤ bm ∧ w.heap.size + 2 ≤ w2.heap.size by have := HZ.out; have := HBM.out; have := hrd.below.size; omega)
       have hrdB := hrd.below
       clear hrd hml HTT HI HTX hnr hk hc4
       go_wp2_with fail
       refine wp_region_held_drew (S := (fun X => X.cell? ⟨bm + 2, 4, none⟩ = some (.slice rA nr rc))) (by kernel_rfl) HC4.out (fun hHeld => ?_)
       refine wpAnyH_tk (i := 0) (oi := _) (v := ?vE0) rfl rfl (by kernel_rfl) (by kernel_rfl) (by kernel_rfl) (fun _ _ _ h => by exact bpdR (R := MkEnd w (.ok sf)) (by omega) h) (Or.inl ⟨by kernel_rfl, ?yE0⟩) (by assumption) ?rE0
       case yE0 => intro w h; (try dsimp only at h); go_simp; try with_reducible rfl
       try simp only [sA, sB, sC]
       refine wpAnyH_tk (i := 2) (oi := _) (v := ?vE2) rfl rfl (by kernel_rfl) (by kernel_rfl) (by kernel_rfl) (fun _ _ _ h => by exact bpdR (R := MkEnd w (.ok sf)) (by omega) h) (Or.inl ⟨by kernel_rfl, ?yE2⟩) (by assumption) ?rE2
       case yE2 => intro w h; (try dsimp only at h); go_simp; try with_reducible rfl
       try simp only [sA, sB, sC]
       refine wpAnyH_tk (i := 3) (oi := _) (v := ?vE3) rfl rfl (by kernel_rfl) (by kernel_rfl) (by kernel_rfl) (fun _ _ _ h => by exact bpdR (R := MkEnd w (.ok sf)) (by omega) h) (Or.inl ⟨by kernel_rfl, ?yE3⟩) (by assumption) ?rE3
       case yE3 => intro w h; (try dsimp only at h); go_simp; try with_reducible rfl
       try simp only [sA, sB, sC]
       refine wpAnyH_tk (i := 4) (oi := _) (v := ?vE4) rfl rfl (by kernel_rfl) (by kernel_rfl) (by kernel_rfl) (fun _ _ _ h => by exact bpdR (R := MkEnd w (.ok sf)) (by omega) h) (Or.inl ⟨by kernel_rfl, ?yE4⟩) (by assumption) ?rE4
       case yE4 => intro w h; (try dsimp only at h); go_simp; try with_reducible rfl
       try simp only [sA, sB, sC]
       refine wpAnyH_tk (i := 5) (oi := _) (v := ?vE5) rfl rfl (by kernel_rfl) (by kernel_rfl) (by kernel_rfl) (fun _ _ _ h => by exact bpdR (R := MkEnd w (.ok sf)) (by omega) h) (Or.inl ⟨by kernel_rfl, ?yE5⟩) (by assumption) ?rE5
       case yE5 => intro w h; (try dsimp only at h); go_simp; try with_reducible rfl
       try simp only [sA, sB, sC]
       refine rq (k := 1) rfl (by kernel_rfl) (by kernel_rfl) (fun K hK => ?_)
       go_simp
       refine (HPA.out _ (Below.refl _ _).drew).mono ?_
       rintro e w3 ⟨⟨pA, pc, rfl, hpr⟩, hb3⟩
       have hb3 : Below w2.heap.size w2 w3 := ((Below.refl w2.heap.size w2).drew).trans hb3
       have hk3 : ∀ k, k < w.heap.size + 2 → w3.heap[k]? = w2.heap[k]? := fun k hk => hb3.block k (by have := HZL.out; omega)
       have hp3 := (World.cell?_of_block (a := ⟨w.heap.size, 0, none⟩) (hk3 w.heap.size (by omega))).trans hp2
       have hp31 := (World.cell?_of_block (a := ⟨w.heap.size, 1, none⟩) (hk3 w.heap.size (by omega))).trans hp21
       have hq3 := (World.cell?_of_block (a := ⟨w.heap.size + 1, 0, none⟩) (hk3 (w.heap.size + 1) (by omega))).trans hq2
       have zp3 := (World.frozen?_of_block (a := ⟨w.heap.size, 0, none⟩) (hk3 w.heap.size (by omega))).trans zp2
       have zp31 := (World.frozen?_of_block (a := ⟨w.heap.size, 1, none⟩) (hk3 w.heap.size (by omega))).trans zp21
       have zq3 := (World.frozen?_of_block (a := ⟨w.heap.size + 1, 0, none⟩) (hk3 (w.heap.size + 1) (by omega))).trans zq2
       have hc5 := (hb3.cell (p := ⟨bm + 2, 4, none⟩) HRL.out).trans HC4.out
       have HPR3 := hide hpr
       have HB3 := hide hb3
       have HS2 := hide (show ((w3.setCell ⟨w.heap.size, 0, none⟩ (.slice pA sf.mac.length pc)).setCell ⟨w.heap.size, 1, none⟩ (.slice rA nr rc)).cell? ⟨bm + 2, 4, none⟩ = some (.slice rA nr rc) by
         rw [World.cell?_setCell_far _ _ _ _ (by dsimp only; have := HZL.out; omega), World.cell?_setCell_far _ _ _ _ (by dsimp only; have := HZL.out; omega)]; exact hc5)
       have HS3 := hide (show (((w3.setCell ⟨w.heap.size, 0, none⟩ (.slice pA sf.mac.length pc)).setCell ⟨w.heap.size, 1, none⟩ (.slice rA nr rc)).setCell ⟨w.heap.size + 1, 0, none⟩ (.int .i64 0)).cell? ⟨bm + 2, 4, none⟩ = some (.slice rA nr rc) by
         rw [World.cell?_setCell_far _ _ _ _ (by dsimp only; have := HZL.out; omega)]; exact HS2.out)
       have hpn : w.heap.size ≠ w.heap.size + 1 := by omega
       have hf0 : (((w3.setCell ⟨w.heap.size, 0, none⟩ (.slice pA sf.mac.length pc)).setCell ⟨w.heap.size, 1, none⟩ (.slice rA nr rc)).setCell ⟨w.heap.size + 1, 0, none⟩ (.int .i64 0)).cell? ⟨w.heap.size, 0, none⟩ = some (.slice pA sf.mac.length pc) := by simp [go_sem, hp3, hp31, hq3, hpn]
       have hf1 : (((w3.setCell ⟨w.heap.size, 0, none⟩ (.slice pA sf.mac.length pc)).setCell ⟨w.heap.size, 1, none⟩ (.slice rA nr rc)).setCell ⟨w.heap.size + 1, 0, none⟩ (.int .i64 0)).cell? ⟨w.heap.size, 1, none⟩ = some (.slice rA nr rc) := by simp [go_sem, hp3, hp31, hq3, hpn]
       have hf2 : (((w3.setCell ⟨w.heap.size, 0, none⟩ (.slice pA sf.mac.length pc)).setCell ⟨w.heap.size, 1, none⟩ (.slice rA nr rc)).setCell ⟨w.heap.size + 1, 0, none⟩ (.int .i64 0)).cell? ⟨w.heap.size + 1, 0, none⟩ = some (.int .i64 0) := by simp [go_sem, hp3, hp31, hq3, hpn]
       have HF := hide (And.intro hf0 (And.intro hf1 hf2))
       have HEND := hide (show MkEnd w (.ok sf) (.returned (.tuple #[.agg #[.slice pA sf.mac.length pc, .slice rA nr rc], .int .i64 0])) (((w3.setCell ⟨w.heap.size, 0, none⟩ (.slice pA sf.mac.length pc)).setCell ⟨w.heap.size, 1, none⟩ (.slice rA nr rc)).setCell ⟨w.heap.size + 1, 0, none⟩ (.int .i64 0)) by
         have hkz : ∀ k, k < w3.heap.size → ¬ (k = w.heap.size ∨ k = w.heap.size + 1) → (((w3.setCell ⟨w.heap.size, 0, none⟩ (.slice pA sf.mac.length pc)).setCell ⟨w.heap.size, 1, none⟩ (.slice rA nr rc)).setCell ⟨w.heap.size + 1, 0, none⟩ (.int .i64 0)).heap[k]? = w3.heap[k]? := fun k h1 h2 => by
           have e1 := (rkp_set (w := (w3.setCell ⟨w.heap.size, 0, none⟩ (.slice pA sf.mac.length pc)).setCell ⟨w.heap.size, 1, none⟩ (.slice rA nr rc)) (g := w.heap.size + 1) (j := 0) (v := .int .i64 0)).block k (by simpa using h1) (fun e => h2 (.inr e))
           have e2 := (rkp_set (w := w3.setCell ⟨w.heap.size, 0, none⟩ (.slice pA sf.mac.length pc)) (g := w.heap.size) (j := 1) (v := .slice rA nr rc)).block k (by simpa using h1) (fun e => h2 (.inl e))
           have e3 := (rkp_set (w := w3) (g := w.heap.size) (j := 0) (v := .slice pA sf.mac.length pc)).block k h1 (fun e => h2 (.inl e))
           exact (e1.trans e2).trans e3
         have hsz : w3.heap.size = (((w3.setCell ⟨w.heap.size, 0, none⟩ (.slice pA sf.mac.length pc)).setCell ⟨w.heap.size, 1, none⟩ (.slice rA nr rc)).setCell ⟨w.heap.size + 1, 0, none⟩ (.int .i64 0)).heap.size := by simp
         have hst3 : ∀ z, (z = w.heap.size ∨ z = w.heap.size + 1) → ∀ j s, w3.cell? ⟨z, j, none⟩ ≠ some (.string s) := by
           have k0 : w2.heap[w.heap.size]? = _ := (hrdB.block _ (by have := HZ.out; omega)).trans HH.out.1
           have k1 : w2.heap[w.heap.size + 1]? = _ := (hrdB.block _ (by have := HZ.out; omega)).trans HH.out.2
           rintro z (rfl | rfl)
           · exact nostr ((hk3 _ (by omega)).trans k0) (by simp)
           · exact nostr ((hk3 _ (by omega)).trans k1) (by simp)
         have hst2 : ∀ z, (z = w.heap.size ∨ z = w.heap.size + 1) → ∀ j s, w2.cell? ⟨z, j, none⟩ ≠ some (.string s) := by
           intro z hz j s
           exact fun e => hst3 z hz j s ((World.cell?_of_block (a := ⟨z, j, none⟩) (hk3 z (by omega))).trans e)
         obtain ⟨rl, hn, hr, ho, hs⟩ := HRDE.out.told HC4.out (w' := ((w3.setCell ⟨w.heap.size, 0, none⟩ (.slice pA sf.mac.length pc)).setCell ⟨w.heap.size, 1, none⟩ (.slice rA nr rc)).setCell ⟨w.heap.size + 1, 0, none⟩ (.int .i64 0)) (by rw [← hsz]; exact hb3.size) (fun z => z = w.heap.size ∨ z = w.heap.size + 1) (fun z hz => by have := HZ.out; omega) (fun k h1 h2 => (hkz k (by have := hb3.size; omega) h2).trans (hb3.block k h1)) hst2
         refine ⟨⟨pA, pc, rA, rc, rl, by rw [hn], hpr.far (by omega) (fun z => z = w.heap.size ∨ z = w.heap.size + 1) hkz hst3, hr, ho, hs⟩, ?_⟩
         exact (((HBF.out.trans (hb3.mono (by have := HZL.out; omega))).setCell (show w.heap.size ≤ w.heap.size by omega) _).setCell (show w.heap.size ≤ w.heap.size by omega) _).setCell (show w.heap.size ≤ w.heap.size + 1 by omega) _)
       clear hpr hb3 hk3 hp2 hp21 hq2 zp2 zp21 zq2 hf0 hf1 hf2 hrdB
       refine hK.out _ _ (by assumption) (fun _ => ?_)
       clear hK K
       try simp only [Act.put, sA, sB, sC]
       refine wpAnyH_tk (i := 6) (oi := _) (v := ?vE6) rfl rfl (by kernel_rfl) (by kernel_rfl) (by kernel_rfl) (fun _ _ _ h => by exact bpdR (R := MkEnd w (.ok sf)) (by omega) h) (Or.inl ⟨by kernel_rfl, ?yE6⟩) (by assumption) ?rE6
       case yE6 => intro w h; (try dsimp only at h); go_simp; try with_reducible rfl
       try simp only [sA, sB, sC]
       refine rq (k := 7) rfl (by kernel_rfl) (by kernel_rfl) (fun K hK => ?_)
       go_simp
       refine hK.out _ _ HS2.out (fun _ => ?_)
       clear hK K
       try simp only [Act.put, sA, sB, sC]
       refine rq (k := 8) rfl (by kernel_rfl) (by kernel_rfl) (fun K hK => ?_)
       go_simp
       refine hK.out _ _ HS3.out (fun _ => ?_)
       clear hK K
       try simp only [Act.put, sA, sB, sC]
       refine wpAnyH_done (by kernel_rfl) ?_ _
       go_wp2
       refine leaves_cons (f := 36) (args := #[.pointer (some ⟨w.heap.size, 0, none⟩), .pointer (some ⟨w.heap.size + 1, 0, none⟩)]) (by simp) (by simp [go_sem]) ?_
       refine (rcatch_idle w.heap.size (w.heap.size + 1) _).mono ?_
       rintro e u' w4 ⟨rfl, rfl, rfl⟩
       obtain ⟨W9, hW9⟩ : ∃ z, ((w3.setCell ⟨w.heap.size, 0, none⟩ (.slice pA sf.mac.length pc)).setCell ⟨w.heap.size, 1, none⟩ (.slice rA nr rc)).setCell ⟨w.heap.size + 1, 0, none⟩ (.int .i64 0) = z := ⟨_, rfl⟩
       rw [hW9] at HF HEND ⊢
       obtain ⟨hf0, hf1, hf2⟩ := HF.out
       simp [Leaves, settle, results, Tryz.results13, go_sem, hf0, hf1, hf2]
       exact HEND.out
   have b1 : (i : Int) < (n : Int) := by omega
   have hil : i < G.length := by have := HN.out; omega
   obtain ⟨x, hx⟩ : ∃ x, G[i]? = some x := ⟨_, List.getElem?_eq_getElem hil⟩
   obtain ⟨gg, o, rfl, hg, h1, h2⟩ := (HPR.out _ HI.out.below) i x hx
   have hxs := HGS.out x (List.mem_of_getElem? hx)
   have hgb := HGB.out i (by omega) (by omega)
   have HSN := hide (show givG (G.take (i + 1)) = givP (givG (G.take i)) x by
     rw [List.getElem?_eq_getElem hil] at hx
     rw [List.take_succ_eq_append_getElem hil, givG_snoc, Option.some.inj hx])
   have HGX := hide hgb
   obtain ⟨s, hs⟩ : ∃ s, givG (G.take i) = s := ⟨_, rfl⟩
   rw [hs] at HSN HI HGX
   obtain ⟨xn, xv⟩ := x
   dsimp only at h1 h2 hxs
   have HNM := hide (fun W => mname_any xn.data.toList W (by rw [data_len]; exact hxs.1))
   rw [bs_of] at HNM
   have HXS := hide hxs
   obtain ⟨W, hW⟩ : ∃ W, wr.alloc (.cells #[.string xn, .string xv] 42) = W := ⟨_, rfl⟩
   have HW := hide hW
   have hbW : Below wr.heap.size wr W := hW ▸ (Below.refl _ _).alloc (Nat.le_refl _) _
   have hp0 : W.cell? ⟨wr.heap.size, 0, none⟩ = some (.string xn) := by rw [← hW]; simp [go_sem]
   have hp1 : W.cell? ⟨wr.heap.size, 1, none⟩ = some (.string xv) := by rw [← hW]; simp [go_sem]
   have HIW := hide (HI.out.step hbW)
   have HRZ := hide (HI.out.lt)
   clear hx hil hgb hs hxs hW hbW
   go_wp2_with fail
   rw [HW.out]
   refine (HNM.out _).mono ?_
   rintro e w1 ⟨rfl, hb1⟩
   have hWz : wr.heap.size < W.heap.size := by rw [← HW.out]; simp
   have hp01 := (hb1.cell (p := ⟨wr.heap.size, 0, none⟩) hWz).trans hp0
   have hp11 := (hb1.cell (p := ⟨wr.heap.size, 1, none⟩) hWz).trans hp1
   have HI1 := hide (HIW.out.step hb1)
   clear hb1 hp0 hp1 HIW HW
   obtain ⟨bn, hbn⟩ : ∃ z, nameF xn.data.toList = z := ⟨_, rfl⟩
   rw [hbn]
   unfold givP at HSN
   dsimp only at HSN
   rw [hbn] at HSN
   clear hbn
   cases bn with
   | false =>
     have HI9 := hide (show RD wb ⟨gf, cwd, bm, bm + 1⟩ (bm + 2) (givG (G.take (i + 1))) 0 S w1 by rw [HSN.out]; exact HI1.out)
     clear HI1
     go_wp2
     go_roundw
     case rel => exact ⟨i + 1, by go_num, by omega, HI9⟩
     case measure => simp [intOf]; omega
   | true =>
     have HI2 := hide (HI1.out.step (Below.refl w1.heap.size w1).drew)
     obtain ⟨Wd, hWd⟩ : ∃ z, w1.drew = z := ⟨_, rfl⟩
     have HWD := hide hWd
     rw [hWd] at HI2
     have hq0 : Wd.cell? ⟨wr.heap.size, 0, none⟩ = some (.string xn) := by rw [← hWd]; exact hp01
     have hq1 : Wd.cell? ⟨wr.heap.size, 1, none⟩ = some (.string xv) := by rw [← hWd]; exact hp11
     obtain ⟨A4, c4, _, _, q2, q3, _⟩ := HI2.out.cells
     have HS0 := hide (show Wd.cell? ⟨bm + 2, 2, none⟩ = some (.map (some bm)) ∧ Wd.cell? ⟨bm + 2, 3, none⟩ = some (.map (some (bm + 1))) ∧ Wd.cell? ⟨wr.heap.size, 0, none⟩ = some (.string xn) ∧ Wd.cell? ⟨wr.heap.size, 1, none⟩ = some (.string xv) from ⟨q2, q3, hq0, hq1⟩)
     clear hWd hq0 hq1 q2 q3 hp01 hp11 HI1
     obtain ⟨v1, st1, wA, e1, k1, z1, c1⟩ := sentry HI2.out.mac HI2.out.rise (by have := HGX.out.2.1; omega) (s := xn) (by have := HXS.out.1; omega)
     dsimp only at e1 k1 c1
     have HC1 := hide c1
     have HK1 := hide k1
     have HZ1 := hide z1
     have HNB := hide (show wr.heap.size ≠ bm ∧ wr.heap.size ≠ bm + 1 ∧ bm + 2 < Wd.heap.size ∧ wr.heap.size < Wd.heap.size by
       have h1 := (HI.out.sw bm (by rw [← HS.out]; omega)).2
       have h2 := (HI.out.sw (bm + 1) (by rw [← HS.out]; omega)).2
       have h3 := HI2.out.lt
       have h4 := World.block_lt_of_cell? Wd _ HS0.out.2.2.1
       exact ⟨by omega, by omega, h3, h4⟩)
     have keepS : ∀ {X Y : World}, Kp X Y (fun k => k = bm ∨ k = bm + 1) → X.heap.size = Wd.heap.size → (X.cell? ⟨bm + 2, 2, none⟩ = some (.map (some bm)) ∧ X.cell? ⟨bm + 2, 3, none⟩ = some (.map (some (bm + 1))) ∧ X.cell? ⟨wr.heap.size, 0, none⟩ = some (.string xn) ∧ X.cell? ⟨wr.heap.size, 1, none⟩ = some (.string xv)) → (Y.cell? ⟨bm + 2, 2, none⟩ = some (.map (some bm)) ∧ Y.cell? ⟨bm + 2, 3, none⟩ = some (.map (some (bm + 1))) ∧ Y.cell? ⟨wr.heap.size, 0, none⟩ = some (.string xn) ∧ Y.cell? ⟨wr.heap.size, 1, none⟩ = some (.string xv)) := fun {X Y} hk hz ⟨g1, g2, g3, g4⟩ => by
       obtain ⟨n1, n2, n3, n4⟩ := HNB.out
       have q1 := hk.block (bm + 2) (by omega) (by omega)
       have q2 := hk.block wr.heap.size (by omega) (by omega)
       exact ⟨(World.cell?_of_block (a := ⟨bm + 2, 2, none⟩) q1).trans g1, (World.cell?_of_block (a := ⟨bm + 2, 3, none⟩) q1).trans g2, (World.cell?_of_block (a := ⟨wr.heap.size, 0, none⟩) q2).trans g3, (World.cell?_of_block (a := ⟨wr.heap.size, 1, none⟩) q2).trans g4⟩
     have HKS := hide (fun X Y => @keepS X Y)
     have HS1 := hide (HKS.out Wd wA (k1.mono fun k e => .inl e) rfl HS0.out)
     obtain ⟨wB, e2, mB, k2, z2⟩ := c1 wA xv rfl
     have kB : Kp Wd wB (fun k => k = bm) := k1.trans (k2.mono fun k e => .inl e)
     have HIB := HI2.out.macS mB (HI2.out.rise.put _) kB (by omega)
     have HS2 := hide (HKS.out wA wB (k2.mono fun k e => .inl e) z1 HS1.out)
     obtain ⟨v3, st3, wC, e3, k3, z3, c3⟩ := bentry HIB.giv (by have := HGX.out.2.2.1; dsimp only; rw [List.length_map]; omega) (s := xn) (by have := HXS.out.1; omega)
     dsimp only at e3 k3 c3
     have HS3 := hide (HKS.out wB wC (k3.mono fun k e => .inr e) (by omega) HS2.out)
     obtain ⟨wD, e4, mD, k4, z4⟩ := c3 wC rfl
     have HS4 := hide (HKS.out wC wD (k4.mono fun k e => .inr e) (by omega) HS3.out)
     have HID := hide (HIB.givS (L := s.giv ++ [xn.data.toList]) (by dsimp only; rw [List.map_append, List.map_singleton, bs_of]; exact mD) (k3.trans (k4.mono fun k e => .inl e)) (by omega))
     have HI9 := hide (show RD wb ⟨gf, cwd, bm, bm + 1⟩ (bm + 2) (givG (G.take (i + 1))) 0 S wD by rw [HSN.out]; exact HID.out)
     clear c1 k1 z1 keepS mB k2 z2 kB HIB k3 z3 c3 mD k4 z4 HID
     go_wp2_with fail
     refine wp_region_held_drew (S := (fun X => X.cell? ⟨bm + 2, 2, none⟩ = some (.map (some bm)) ∧ X.cell? ⟨bm + 2, 3, none⟩ = some (.map (some (bm + 1))) ∧ X.cell? ⟨wr.heap.size, 0, none⟩ = some (.string xn) ∧ X.cell? ⟨wr.heap.size, 1, none⟩ = some (.string xv))) (by kernel_rfl) (HWD.out ▸ HS0.out) (fun hHeld => ?_)
     refine wpAnyH_tk (i := 0) (oi := _) (v := ?v0) rfl rfl (by kernel_rfl) (by kernel_rfl) (by kernel_rfl) (fun _ _ _ h => by exact bpdR (R := MkEnd w R) (by omega) h) (Or.inl ⟨by kernel_rfl, ?y0⟩) (by assumption) ?r0
     case y0 => intro w h; (try dsimp only at h); go_simp; try with_reducible rfl
     try simp only [sA, sB, sC]
     refine wpAnyH_tk (i := 1) (oi := _) (v := ?v1) rfl rfl (by kernel_rfl) (by kernel_rfl) (by kernel_rfl) (fun _ _ _ h => by exact bpdR (R := MkEnd w R) (by omega) h) (Or.inl ⟨by kernel_rfl, ?y1⟩) (by assumption) ?r1
     case y1 => intro w h; (try dsimp only at h); go_simp; try with_reducible rfl
     try simp only [sA, sB, sC]
     refine wpAnyH_tk (i := 2) (oi := _) (v := ?v2) rfl rfl (by kernel_rfl) (by kernel_rfl) (by kernel_rfl) (fun _ _ _ h => by exact bpdR (R := MkEnd w R) (by omega) h) (Or.inl ⟨by kernel_rfl, ?y2⟩) (by assumption) ?r2
     case y2 => intro w h; (try dsimp only at h); go_simp; try with_reducible rfl
     try simp only [sA, sB, sC]
     refine wpAnyH_tk (i := 3) (oi := _) (v := ?v3) rfl rfl (by kernel_rfl) (by kernel_rfl) (by kernel_rfl) (fun _ _ _ h => by exact bpdR (R := MkEnd w R) (by omega) h) (Or.inl ⟨by kernel_rfl, ?y3⟩) (by assumption) ?r3
     case y3 => intro w h; (try dsimp only at h); go_simp; try with_reducible rfl
     try simp only [sA, sB, sC]
     refine wpAnyH_tk (i := 4) (oi := _) (v := ?v4) rfl rfl (by kernel_rfl) (by kernel_rfl) (by kernel_rfl) (fun _ _ _ h => by exact bpdR (R := MkEnd w R) (by omega) h) (Or.inl ⟨by kernel_rfl, ?y4⟩) (by assumption) ?r4
     case y4 => intro w h; (try dsimp only at h); go_simp; try with_reducible rfl
     try simp only [sA, sB, sC]
     refine wpAnyH_tk (i := 5) (oi := _) (v := ?v5) rfl rfl (by kernel_rfl) (by kernel_rfl) (by kernel_rfl) (fun _ _ _ h => by exact bpdR (R := MkEnd w R) (by omega) h) (Or.inl ⟨by kernel_rfl, ?y5⟩) (by assumption) ?r5
     case y5 => intro w h; (try dsimp only at h); go_simp; try with_reducible rfl
     try simp only [sA, sB, sC]
     refine wpAnyH_tk (i := 6) (oi := _) (v := ?v6) rfl rfl (by kernel_rfl) (by kernel_rfl) (by kernel_rfl) (fun _ _ _ h => by exact bpdR (R := MkEnd w R) (by omega) h) (Or.inl ⟨by kernel_rfl, ?y6⟩) (by assumption) ?r6
     case y6 => intro w h; (try dsimp only at h); go_simp; try with_reducible rfl
     try simp only [sA, sB, sC]
     refine wpAnyH_tk (i := 7) (oi := _) (v := ?v7) rfl rfl (by kernel_rfl) (by kernel_rfl) (by kernel_rfl) (fun _ _ _ h => by exact bpdR (R := MkEnd w R) (by omega) h) (Or.inl ⟨by kernel_rfl, ?y7⟩) (by assumption) ?r7
     case y7 => intro w h; (try dsimp only at h); go_simp; try with_reducible rfl
     try simp only [sA, sB, sC]
     refine wpAnyH_tk (i := 8) (oi := _) (v := ?v8) rfl rfl (by kernel_rfl) (by kernel_rfl) (by kernel_rfl) (fun _ _ _ h => by exact bpdR (R := MkEnd w R) (by omega) h) (Or.inl ⟨by kernel_rfl, ?y8⟩) (by assumption) ?r8
     case y8 => intro w h; (try dsimp only at h); go_simp; try with_reducible rfl
     try simp only [sA, sB, sC]
     refine wpAnyH_tk (i := 9) (oi := _) (v := ?v9) rfl rfl (by kernel_rfl) (by kernel_rfl) (by kernel_rfl) (fun _ _ _ h => by exact bpdR (R := MkEnd w R) (by omega) h) (Or.inl ⟨by kernel_rfl, ?y9⟩) (by assumption) ?r9
     case y9 => intro w h; (try dsimp only at h); go_simp; try with_reducible rfl
     try simp only [sA, sB, sC]
     refine wpAnyH_tk (i := 10) (oi := _) (v := ?v10) rfl rfl (by kernel_rfl) (by kernel_rfl) (by kernel_rfl) (fun _ _ _ h => by exact bpdR (R := MkEnd w R) (by omega) h) (Or.inl ⟨by kernel_rfl, ?y10⟩) (by assumption) ?r10
     case y10 => intro w h; (try dsimp only at h); go_simp; try with_reducible rfl
     try simp only [sA, sB, sC]
     refine wpAnyH_tk (i := 11) (oi := _) (v := ?v11) rfl rfl (by kernel_rfl) (by kernel_rfl) (by kernel_rfl) (fun _ _ _ h => by exact bpdR (R := MkEnd w R) (by omega) h) (Or.inl ⟨by kernel_rfl, ?y11⟩) (by assumption) ?r11
     case y11 => intro w h; (try dsimp only at h); go_simp; try with_reducible rfl
     try simp only [sA, sB, sC]
     refine wpAnyH_tk (i := 12) (oi := _) (v := ?v12) rfl rfl (by kernel_rfl) (by kernel_rfl) (by kernel_rfl) (fun _ _ _ h => by exact bpdR (R := MkEnd w R) (by omega) h) (Or.inl ⟨by kernel_rfl, ?y12⟩) (by assumption) ?r12
     case y12 => intro w h; (try dsimp only at h); go_simp; try with_reducible rfl
     try simp only [sA, sB, sC]
     refine wpAnyH_tk (i := 13) (oi := _) (v := ?v13) rfl rfl (by kernel_rfl) (by kernel_rfl) (by kernel_rfl) (fun _ _ _ h => by exact bpdR (R := MkEnd w R) (by omega) h) (Or.inl ⟨by kernel_rfl, ?y13⟩) (by assumption) ?r13
     case y13 => intro w h; (try dsimp only at h); go_simp; try with_reducible rfl
     try simp only [sA, sB, sC]
     rw [HWD.out]
     refine rq (k := 14) rfl (by kernel_rfl) (by kernel_rfl) (fun K hK => ?_)
     go_simp
     refine hK.out _ _ HS1.out (fun _ => ?_)
     clear hK K
     try simp only [Act.put, sA, sB, sC]
     refine wpAnyH_tk (i := 15) (oi := _) (v := ?v15) rfl rfl (by kernel_rfl) (by kernel_rfl) (by kernel_rfl) (fun _ _ _ h => by exact bpdR (R := MkEnd w R) (by omega) h) (Or.inl ⟨by kernel_rfl, ?y15⟩) (by assumption) ?r15
     case y15 => intro w h; (try dsimp only at h); go_simp; try with_reducible rfl
     try simp only [sA, sB, sC]
     refine rq (k := 16) rfl (by kernel_rfl) (by kernel_rfl) (fun K hK => ?_)
     go_simp
     refine hK.out _ _ HS2.out (fun _ => ?_)
     clear hK K
     try simp only [Act.put, sA, sB, sC]
     refine rq (k := 17) rfl (by kernel_rfl) (by kernel_rfl) (fun K hK => ?_)
     go_simp
     refine hK.out _ _ HS3.out (fun _ => ?_)
     clear hK K
     try simp only [Act.put, sA, sB, sC]
     refine wpAnyH_tk (i := 18) (oi := _) (v := ?v18) rfl rfl (by kernel_rfl) (by kernel_rfl) (by kernel_rfl) (fun _ _ _ h => by exact bpdR (R := MkEnd w R) (by omega) h) (Or.inl ⟨by kernel_rfl, ?y18⟩) (by assumption) ?r18
     case y18 => intro w h; (try dsimp only at h); go_simp; try with_reducible rfl
     try simp only [sA, sB, sC]
     refine rq (k := 19) rfl (by kernel_rfl) (by kernel_rfl) (fun K hK => ?_)
     go_simp
     refine hK.out _ _ HS4.out (fun _ => ?_)
     clear hK K
     try simp only [Act.put, sA, sB, sC]
     refine wpAnyH_done (by kernel_rfl) ?_ _
     go_wp2
     go_roundw
     case rel => exact ⟨i + 1, by go_num, by omega, HI9⟩
     case measure => simp [intOf]; omega
end
end Go.Proofs.YtpheeheikigenaaGreatDoor
namespace Go.Proofs.YtpheeheikigenaaGreatDoor
namespace Rd
open Go.RowKit Ln Pth Vf Mc
def wrongT : List T := [[97], [9, 101, 99, 104, 111], [58, 32, 97], [97, 58, 32, 98, 58, 32, 99], [97, 37, 32, 98, 58, 32, 99], [36, 40, 97, 58, 32, 98], [36, 123], [97, 32, 61, 32, 49, 10, 9, 101, 99, 104, 111], [105, 110, 99, 108, 117, 100, 101, 32, 110, 111, 110, 101], [120, 32, 58, 61, 32, 36, 40, 120, 41, 36, 40, 121, 41, 10, 121, 32, 61, 32, 36, 40, 120], [97, 0, 58, 32, 98], [122, 32, 61, 32, 36, 40, 122, 41, 10, 36, 40, 122, 41, 58, 32, 97], [97, 58, 32, 36, 40, 97]]
def wrongE : List Nat := [2, 2, 2, 2, 2, 2, 2, 2, 6, 0, 2, 18, 2]
def errR : Except Nat Sx → Nat
 | .error e => e
 | .ok _ => 0
theorem wrong_all : wrongT.map (fun t => errR (textR (newS 1 1) [47] 10 ⟨[], [], [], 0⟩ t)) = wrongE := by decide +kernel
def aliveT : T := [97, 58, 32, 98, 32, 99, 10, 9, 101, 99, 104, 111]
theorem alive_plain : textR (newS 1 1) [47] 10 ⟨[], [], [], 0⟩ aliveT = .ok ⟨[], [], [⟨[[97]], [[98], [99]], [[101, 99, 104, 111]]⟩], 0⟩ := by kernel_rfl
end Rd
end Go.Proofs.YtpheeheikigenaaGreatDoor
namespace Go.Proofs.YtpheeheikigenaaGreatDoor
section
open Go.RowKit Go.Deep Go.Maps Ln Pth Vf
theorem hs_of {g : Nat} {S : St} {T N : Nat → Prop} {w : World} (h : VS g S T N w) (ok : OkTN T N w) : Hs (VS g S) w := ⟨T, N, h, ok⟩
end
section
open Go.RowKit Go.Deep Go.Maps Ln Pth Vf
attribute [local go_sem] bt_eq
theorem convYY (w : World) (C : Array Value) (n c : Nat) : (convert 55 55 (.slice (some ⟨w.heap.size, 0, none⟩) n c)).run Tryz.prog (w.alloc (.cells C 5)) = .ok (.slice (some ⟨w.heap.size, 0, none⟩) n c) (w.alloc (.cells C 5 (C.size, C.size + 1))) := Lib.run_convert_bytes_const w 55 5 C n c Tryz.underlying55 Tryz.underlying5
attribute [local go_sem] convYY
end
section
open Go.RowKit Go.Deep Go.Maps Ln Pth Vf Rd Mc
attribute [local go_sem] bt_eq
theorem num20_any (n : Int) (w : World) : Calls Tryz.prog 15 #[.int .i64 n] w fun e w' => e = .returned (.int .i64 n) ∧ w = w' := by
 go_enter Tryz.func15, Tryz.ntmps15
 go_wp2
 go_ret
 exact ⟨rfl, rfl⟩
def macF (P : KV ByteArray) (n : ByteArray) : ByteArray := (getG P n).getD ⟨#[]⟩
theorem rmacro_any (A : Option Addr) (c : Nat) (P : KV ByteArray) (rA : Option Addr) (rn rc : Nat) (n : ByteArray) (w : World) (h : PR w A P) (hl : P.length ≤ 1000000) :
   Calls Tryz.prog 18 #[.agg #[.slice A P.length c, .slice rA rn rc], .string n] w fun e w' => e = .returned (.string (macF P n)) ∧ Below w.heap.size w w' := by
 have HP := hide h
 obtain ⟨m, hm⟩ : ∃ m, P.length = m := ⟨_, rfl⟩
 have HM := hide hm
 rw [hm] at hl ⊢
 clear hm h
 go_enter Tryz.func18, Tryz.ntmps18
 go_wp2
 go_loopw [6, 10] (fun _ v10 wr => ∃ i : Nat, v10 = .int .i64 i ∧ i ≤ m ∧ Hid (Below w.heap.size w wr) ∧ Hid (getG P n = getG (P.drop i) n)) (fun _ v10 _ => m - (intOf v10).toNat)
 case atStart => exact ⟨0, rfl, by omega, hide ((Below.refl _ _).alloc (Nat.le_refl _) _), hide (by simp)⟩
 case round =>
   obtain ⟨i, rfl, hi, HB, HG⟩ := hrel
   by_cases hlt : i < m
   case neg =>
     obtain rfl : i = m := by omega
     have HE := hide (show macF P n = ⟨#[]⟩ by unfold macF; rw [HG.out, List.drop_of_length_le (by have := HM.out; omega), getG_nil]; rfl)
     go_wp2
     go_ret
     exact ⟨by rw [HE.out]; rfl, HB.out⟩
   have b1 : (i : Int) < (m : Int) := by omega
   have hil : i < P.length := by have := HM.out; omega
   obtain ⟨x, hx⟩ : ∃ x, P[i]? = some x := ⟨_, List.getElem?_eq_getElem hil⟩
   obtain ⟨g, o, rfl, hg, h1, h2⟩ := (HP.out.below HB.out) i x hx
   have HD := hide (show getG P n = if x.1 = n then some x.2 else getG (P.drop (i + 1)) n by
     rw [HG.out, List.drop_eq_getElem_cons hil, getG_cons]
     rw [List.getElem?_eq_getElem hil] at hx
     rw [Option.some.inj hx])
   obtain ⟨xn, xv⟩ := x
   dsimp only at h1 h2 HD
   clear hx hil
   have hbW : Below w.heap.size w (wr.alloc (.cells #[.string xn, .string xv] 42)) := HB.out.alloc (HB.out.size) _
   have HBW := hide hbW
   clear hbW
   by_cases he : xn = n
   · have HE := hide (show macF P n = xv by unfold macF; rw [HD.out, if_pos he]; rfl)
     have hq : (xn.toList == n.toList) = true := by rw [he]; simp
     clear HD he
     go_wp2
     go_ret
     exact ⟨by rw [HE.out]; rfl, HBW.out⟩
   · have HE := hide (HD.out.trans (if_neg he))
     have hq : (xn.toList == n.toList) = false := by
       rw [beq_eq_false_iff_ne]
       intro h
       rw [ByteArray.toList_eq, ByteArray.toList_eq] at h
       exact he (ByteArray.ext (Array.toList_inj.1 h))
     clear HD
     go_wp2
     go_roundw
     case rel => exact ⟨i + 1, by go_num, by omega, HBW, HE⟩
     case measure => simp [intOf]; omega
end
section
open Go.RowKit Go.Deep Go.Maps Ln Pth Vf Rd Mc
attribute [local go_sem] bt_eq
theorem rread_new (w0 w w1 : World) (n b : Int) (hm : MX w0) (h0 : Below w0.heap.size w0 w) (hb : Below w.heap.size w w1) (hv : VS (w.heap.size + 1) (newS n b) (fun k => w.heap.size ≤ k ∧ k < w1.heap.size) (fun _ => False) w1) (t : T) (ht : t.length ≤ 9000000000000000000) (W : World) (hW : Below w1.heap.size w1 W) :
   Calls Tryz.prog 13 #[.pointer (some ⟨w.heap.size + 1, 0, none⟩), .string ⟨#[47]⟩, .string (bs t), .slice none 0 0] W (MkEnd W (textR (newS n b) [47] 10 ⟨[], [], [], 0⟩ t)) := by
 have ok : OkTN (fun k => w.heap.size ≤ k ∧ k < w1.heap.size) (fun _ => False) w1 := ⟨fun k hk => ⟨hk.2, fun h => h⟩, fun k h => h.elim⟩
 exact rread_any (w.heap.size + 1) (newS n b) [47] t W ((hs_of hv ok).below (VS.fr _ _) hW) (newS_wf n b) (((hm.below h0).below hb).below hW) (by simp) ht [] none 0 (PR.nil _ _) (by simp) (fun x hx => by cases hx)
theorem ralive_any (w : World) (hm : MX w) : Calls Tryz.prog 12 #[] w fun e w' => e = .returned (.bool true) ∧ Below w.heap.size w w' := by
 have HN := hide (vnew_any 1 1 w (by decide) (by decide) (by decide) (by decide))
 have HM := hide hm
 clear hm
 go_enter Tryz.func12, Tryz.ntmps12
 go_wp2_with fail
 refine HN.out.mono ?_
 rintro e w1 ⟨rfl, hb1, hv1, hz1⟩
 have HR := hide (rread_new w w w1 1 1 HM.out (Below.refl _ _) hb1 hv1 aliveT (by decide) w1 (Below.refl _ _))
 rw [alive_plain] at HR
 have HB1 := hide hb1
 clear hb1 hv1 HN
 go_wp2_with fail
 refine HR.out.mono ?_
 rintro e w2 ⟨⟨pA, pc, rA, rc, rl, rfl, _, hr, ho, hs⟩, hb2⟩
 obtain ⟨q, rfl⟩ : ∃ q, rl = [q] := List.length_eq_one_iff.1 (by have := rl_len ho; simpa using this)
 have hq : outR q = ofRS ⟨[[97]], [[98], [99]], [[101, 99, 104, 111]]⟩ := by simpa using ho
 unfold outR ofRS at hq
 simp only [List.map_cons, List.map_nil, List.cons.injEq, and_true] at hq
 obtain ⟨q1, q2, q3⟩ := hq
 obtain ⟨g, o, rfl, hg, hc⟩ := hr 0 q rfl
 have h1 : w2.cell? ⟨g, o + 1, none⟩ = some (.slice q.nd.1 2 q.nd.2.1) := by
   have := hc 1 (sv q.nd) rfl
   unfold sv at this
   rw [q2] at this
   simpa using this
 have h2 : w2.cell? ⟨g, o + 2, none⟩ = some (.slice q.rc.1 1 q.rc.2.1) := by
   have := hc 2 (sv q.rc) rfl
   unfold sv at this
   rw [q3] at this
   simpa using this
 have HBW := hide ((HB1.out.trans (hb2.mono HB1.out.size)).alloc (by have := HB1.out.size; have := hb2.size; omega) (.cells #[.slice pA 0 pc, .slice (some ⟨g, o, none⟩) 1 rc] 28))
 have HNU := hide (fun W => num20_any 0 W)
 clear hr hs ho hc q1 q2 q3 hb2
 go_wp2_with fail
 refine (HNU.out _).mono ?_
 rintro e w3 ⟨rfl, rfl⟩
 go_wp2
 go_ret
 exact ⟨rfl, HBW.out⟩
end
section
open Go.RowKit Go.Deep Go.Maps Ln Pth Vf Rd Mc
abbrev mkty : TypeId := 28
def MkAt (R : Except Nat Sx) (gm : Nat) (code : Nat) (w : World) : Prop := match R with
 | .error c => code = c ∧ w.heap[gm]? = some (.cells #[.slice none 0 0, .slice none 0 0] mkty)
 | .ok s => code = 0 ∧ ∃ pA pc rA rc rl, w.heap[gm]? = some (.cells #[.slice pA s.mac.length pc, .slice rA s.rules.length rc] mkty) ∧ PR w pA s.mac ∧ RG encRl 3 w rA rl ∧ rl.map outR = s.rules.map ofRS ∧ ∀ r ∈ rl, SR w r.tg.1 r.tg.2.2 ∧ SR w r.nd.1 r.nd.2.2 ∧ SR w r.rc.1 r.rc.2.2
theorem RG.far3 {w w' : World} {A : Option Addr} {L : List Rl} (h : RG encRl 3 w A L) (hs : w.heap.size ≤ w'.heap.size) (g : Nat) (hk : ∀ k, k < w.heap.size → k ≠ g → w'.heap[k]? = w.heap[k]?) {a b : Value} (hg : w.heap[g]? = some (.cells #[a, b] mkty)) : RG encRl 3 w' A L := by
 intro k x hx
 obtain ⟨g', o, e, hl, h1⟩ := h k x hx
 have hne : g' ≠ g := by
   rintro rfl
   have h2 := h1 2 (sv x.rc) rfl
   unfold World.cell? at h2
   simp only [hg] at h2
   have : (#[a, b] : Array Value)[o + k * 3 + 2]? = some (sv x.rc) := h2
   rw [Array.getElem?_eq_none (by simp)] at this
   cases this
 exact ⟨g', o, e, by omega, fun j v hj => (World.cell?_of_block (a := ⟨g', o + k * 3 + j, none⟩) (hk g' hl hne)).trans (h1 j v hj)⟩
theorem nostr2 {w : World} {g : Nat} {pA rA : Option Addr} {n m c d : Nat} (hg : w.heap[g]? = some (.cells #[.slice pA n c, .slice rA m d] mkty)) : ∀ z, z = g → ∀ j s, w.cell? ⟨z, j, none⟩ ≠ some (.string s) := by
 rintro z rfl
 exact nostr hg (by simp)
theorem MkEnd.after {w w3 : World} {R : Except Nat Sx} {e : Ending} (h : MkEnd w R e w3) : ∃ (pA : Option Addr) (pn pc : Nat) (rA : Option Addr) (rn rc code : Nat), e = .returned (.tuple #[.agg #[.slice pA pn pc, .slice rA rn rc], .int .i64 code]) ∧ Below w.heap.size w w3 ∧
   MkAt R w3.heap.size code (w3.alloc (.cells #[.slice pA pn pc, .slice rA rn rc] mkty)) ∧
   ∀ g, w3.heap[g]? = some (.cells #[.slice none 0 0, .slice none 0 0] mkty) → MkAt R g code ((w3.setCell ⟨g, 0, none⟩ (.slice pA pn pc)).setCell ⟨g, 1, none⟩ (.slice rA rn rc)) := by
 obtain ⟨h, hb⟩ := h
 cases R with
 | error c =>
   dsimp only at h
   subst h
   refine ⟨none, 0, 0, none, 0, 0, c, rfl, hb, ⟨rfl, heapNew _ _⟩, fun g hg => ⟨rfl, ?_⟩⟩
   rw [rsetA (rsetA hg _)]
   rfl
 | ok s =>
   obtain ⟨pA, pc, rA, rc, rl, rfl, h1, h2, h3, h4⟩ := h
   refine ⟨pA, s.mac.length, pc, rA, s.rules.length, rc, 0, rfl, hb, ?_, fun g hg => ?_⟩
   · have hbn : Below w3.heap.size w3 (w3.alloc (.cells #[.slice pA s.mac.length pc, .slice rA s.rules.length rc] mkty)) := (Below.refl _ _).alloc (Nat.le_refl _) _
     refine ⟨rfl, pA, pc, rA, rc, rl, heapNew _ _, h1.below hbn, ?_, h3, fun r hr => ⟨(h4 r hr).1.below hbn, (h4 r hr).2.1.below hbn, (h4 r hr).2.2.below hbn⟩⟩
     intro k x hx
     obtain ⟨g', o, e, hl, h7⟩ := h2 k x hx
     exact ⟨g', o, e, Nat.lt_of_lt_of_le hl hbn.size, fun j v hj => (World.cell?_of_block (a := ⟨g', o + k * 3 + j, none⟩) (hbn.block g' hl)).trans (h7 j v hj)⟩
   · have hz : w3.heap.size ≤ ((w3.setCell ⟨g, 0, none⟩ (.slice pA s.mac.length pc)).setCell ⟨g, 1, none⟩ (.slice rA s.rules.length rc)).heap.size := by simp
     have hk : ∀ k, k < w3.heap.size → ¬ k = g → ((w3.setCell ⟨g, 0, none⟩ (.slice pA s.mac.length pc)).setCell ⟨g, 1, none⟩ (.slice rA s.rules.length rc)).heap[k]? = w3.heap[k]? := fun k h1 h2 => by
       have e2 := (rkp_set (w := w3.setCell ⟨g, 0, none⟩ (.slice pA s.mac.length pc)) (g := g) (j := 1) (v := .slice rA s.rules.length rc)).block k (by simpa using h1) h2
       have e3 := (rkp_set (w := w3) (g := g) (j := 0) (v := .slice pA s.mac.length pc)).block k h1 h2
       exact e2.trans e3
     have hst := nostr2 hg
     refine ⟨rfl, pA, pc, rA, rc, rl, ?_, h1.far hz (fun z => z = g) hk hst, h2.far3 hz g hk hg, h3, fun r hr => ⟨(h4 r hr).1.far hz (fun z => z = g) hk hst, (h4 r hr).2.1.far hz (fun z => z = g) hk hst, (h4 r hr).2.2.far hz (fun z => z = g) hk hst⟩⟩
     rw [rsetA (rsetA hg _)]
     rfl
theorem vnew_at (w0 X : World) (hm : MX w0) (h0 : Below w0.heap.size w0 X) : Calls Tryz.prog 14 #[.int .i64 1, .int .i64 1] X fun e X1 => ∃ gf : Nat, e = .returned (.pointer (some ⟨gf, 0, none⟩)) ∧ Below X.heap.size X X1 ∧
   ∀ (t : T) (Z : World), t.length ≤ 9000000000000000000 → Below X1.heap.size X1 Z → Calls Tryz.prog 13 #[.pointer (some ⟨gf, 0, none⟩), .string ⟨#[47]⟩, .string (bs t), .slice none 0 0] Z (MkEnd Z (textR (newS 1 1) [47] 10 ⟨[], [], [], 0⟩ t)) := by
 refine (vnew_any 1 1 X (by decide) (by decide) (by decide) (by decide)).mono ?_
 rintro e X1 ⟨rfl, hb, hv, hz⟩
 exact ⟨X.heap.size + 1, rfl, hb, fun t Z ht hZ => rread_new w0 X X1 1 1 hm h0 hb hv t ht Z hZ⟩
end
section
open Go.RowKit Go.Deep Go.ChangeShapes Go.WideShapes
theorem choose_list {α : Type} {P : Nat → α → Prop} : ∀ n, (∀ i, i < n → ∃ x, P i x) → ∃ L : List α, L.length = n ∧ ∀ i x, L[i]? = some x → P i x
 | 0, _ => ⟨[], rfl, fun i x h => by simp at h⟩
 | n + 1, h => by
   obtain ⟨L, hl, hL⟩ := choose_list n (fun i hi => h i (by omega))
   obtain ⟨x, hx⟩ := h n (by omega)
   refine ⟨L ++ [x], by simp [hl], fun i y hy => ?_⟩
   by_cases hi : i < L.length
   · rw [List.getElem?_append_left hi] at hy
     exact hL i y hy
   · rw [List.getElem?_append_right (by omega)] at hy
     have : i - L.length = 0 := by
       have := (List.getElem?_eq_some_iff.1 hy).1
       simp at this
       omega
     rw [this] at hy
     simp at hy
     subst hy
     rw [show i = n by omega]
     exact hx
theorem add_offR (b off k : Nat) : (Addr.mk b off none).add k = ⟨b, off + k, none⟩ := by
 unfold Addr.add
 split
 · rename_i h0; subst h0; rfl
 · rfl
def CellsAt (w : World) (g o : Nat) (cs : List Value) : Prop := ∀ j v, cs[j]? = some v → w.cell? ⟨g, o + j, none⟩ = some v
def RowsAt {α : Type} (n : Nat) (good : World → α → List Value → Prop) (w : World) (A : Option Addr) (L : List α) : Prop :=
 ∀ k x, L[k]? = some x → ∃ g o cs, A = some ⟨g, o, none⟩ ∧ g < w.heap.size ∧ cs.length = n ∧ CellsAt w g (o + k * n) cs ∧ good w x cs
end
section
open Go.RowKit Go.Deep Go.ChangeShapes Go.WideShapes
end
section
open Go.RowKit Go.Deep Go.ChangeShapes Go.WideShapes
end
section
open Go.RowKit Go.Deep Go.ChangeShapes Go.WideShapes
end
section
open Go.RowKit Go.Deep Go.ChangeShapes Go.WideShapes
structure SmallD (H : Type) (K : Nat) where
 P : TypeId → DataW H → Prop
 elem : ∀ {t e : TypeId} {elems spare : List (DataW H)} {d : DataW H}, Tryz.prog.underlying t = some (.slice e) → P t (.slice elems spare) → d ∈ elems → P e d
 part : ∀ {t : TypeId} {fs : Array Field} {parts : List (DataW H)} {j : Nat} {f : Field} {d : DataW H}, Tryz.prog.underlying t = some (.struct fs) → P t (.agg parts) → fs[j]? = some f → parts[j]? = some d → P f.type d
 str : ∀ {t : TypeId} {b : List UInt8}, P t (.lit (.string b)) → b.length ≤ K
theorem weightsAll_mem {H : Type} {P : Program} {e : TypeId} {n : Nat} {d : DataW H} (hn : n ∈ d.weights P e) : ∀ {l : List (DataW H)}, d ∈ l → n ∈ DataW.weightsAll P e l
 | [], h => by cases h
 | x :: l, h => by
   simp only [DataW.weightsAll, List.mem_append]
   rcases List.mem_cons.1 h with rfl | h
   · exact .inl hn
   · exact .inr (weightsAll_mem hn h)
def weighD (H : Type) : SmallD H reachBytes where
 P := fun t d => ∀ n ∈ d.weights Tryz.prog t, n ≤ reachBytes
 elem := fun {t e elems spare d} hu h hd n hn => h n (by
   simp only [DataW.weights, hu, List.mem_cons, List.mem_append]
   exact .inr (.inl (weightsAll_mem hn hd)))
 part := fun {t fs parts j f d} hu h hf hd n hn => h n (by
   simp only [DataW.weights, hu]
   exact DataW.weights_mem_each (j := j) (t := f.type) (by rw [List.getElem?_map, Array.getElem?_toList, hf]; rfl) hd n hn)
 str := fun {t b} h => h b.length (by simp [DataW.weights])
theorem weighD_arg {H : Type} {ts : List TypeId} {ds : List (DataW H)} (h : (DataW.weightsEach Tryz.prog ts ds).all (· ≤ reachBytes) = true) {j : Nat} {t : TypeId} {d : DataW H} (ht : ts[j]? = some t) (hd : ds[j]? = some d) : (weighD H).P t d := fun n hn => by
 have := List.all_eq_true.1 h _ (DataW.weights_mem_each ht hd n hn)
 simpa using this
theorem open_rowsD {H α : Type} {enc : TypeId × Value → H} {w : World} {spare : Nat → Bool} {held : Bool} {K : Nat} (S : SmallD H K) {t e : TypeId} {n : Nat} (ht : Tryz.prog.underlying t = some (.slice e)) (hn : Tryz.prog.cellsOf e = n) (h0 : 0 < n) (good : World → α → List Value → Prop)
   (each : ∀ fuel cs y, cs.length = n → S.P e y.1 → DataW.trod enc Tryz.prog w 0 spare held fuel e cs = some y → ∃ x, good w x cs)
   {a0 : Option Addr} {len cap : Nat} {d : DataW H} {ps : List MemPlace} (h : DataW.Trod enc Tryz.prog w 0 spare held t (.slice a0 len cap) d ps) (hS : S.P t d) :
   ∃ L : List α, L.length = len ∧ L.length ≤ maxLen ∧ (∀ x ∈ L, ∃ cs, good w x cs) ∧ RowsAt n good w a0 L := by
 obtain ⟨fuel, hf⟩ := h
 rcases open_slice ht hf with ⟨hcs, hx⟩ | ⟨a, len', cap', m, fl, D, Pl, hcs, _, hl, hm, hmm, hdd, hx⟩
 · simp [Value.cells] at hcs
   obtain ⟨rfl, rfl, rfl⟩ := hcs
   exact ⟨[], rfl, Nat.zero_le _, fun x hx => by simp at hx, fun k x hk => by simp at hk⟩
 · simp [Value.cells] at hcs
   obtain ⟨rfl, rfl, rfl⟩ := hcs
   have hd1 := congrArg Prod.fst hdd
   simp only at hd1
   rw [hd1] at hS
   have hlm : len ≤ m := by rw [hmm]; split <;> omega
   obtain ⟨L, hL, hLx⟩ := choose_list (P := fun i x => ∃ cs, cs.length = n ∧ (∀ j v, cs[j]? = some v → w.cell? ((a.add (i * n)).add j) = some v) ∧ good w x cs) len (fun i hi => by
     obtain ⟨cs', h1, h2⟩ := hx i (by omega)
     rw [hn] at h1
     obtain ⟨_, hlen, hcell⟩ := World.cells?_some h1
     obtain ⟨x, hx⟩ := each _ _ _ hlen (S.elem ht hS (List.mem_map.2 ⟨i, List.mem_range.2 hi, rfl⟩)) h2
     refine ⟨x, cs', hlen, fun j v hj => ?_, hx⟩
     have hjn : j < n := by
       have := (List.getElem?_eq_some_iff.1 hj).1
       omega
     have := hcell j hjn
     rw [hj] at this
     exact this)
   refine ⟨L, hL, by omega, fun x hx => ?_, fun k x hk => ?_⟩
   · obtain ⟨i, hi⟩ := List.getElem?_of_mem hx
     obtain ⟨cs, _, _, hg⟩ := hLx i x hi
     exact ⟨cs, hg⟩
   · obtain ⟨cs, h1, h2, h3⟩ := hLx k x hk
     obtain ⟨b, off, spot⟩ := a
     have hk2 : k < len := by
       have := (List.getElem?_eq_some_iff.1 hk).1
       omega
     obtain ⟨v0, hv0⟩ : ∃ v, cs[0]? = some v := ⟨cs[0]'(by omega), gE _⟩
     have hc0 := h2 0 v0 hv0
     have hspot : spot = none := by
       obtain ⟨x0, hx0⟩ : ∃ x, L[0]? = some x := ⟨L[0]'(by omega), gE _⟩
       obtain ⟨cs0, q1, q2, _⟩ := hLx 0 x0 hx0
       obtain ⟨u0, hu0⟩ : ∃ v, cs0[0]? = some v := ⟨cs0[0]'(by omega), gE _⟩
       have := q2 0 u0 hu0
       rw [Nat.zero_mul] at this
       simpa [Addr.add] using World.cell?_spot this
     subst hspot
     refine ⟨b, off, cs, rfl, ?_, h1, fun j v hj => ?_, h3⟩
     · rw [add_offR, add_offR] at hc0
       exact World.block_lt_of_cell? w _ hc0
     · have := h2 j v hj
       rw [add_offR, add_offR] at this
       exact this
theorem open_SRD {H : Type} {enc : TypeId × Value → H} {W : World} {K : Nat} (S : SmallD H K) {a0 : Option Addr} {len cap : Nat} {d : DataW H} {ps : List MemPlace} (h : DataW.Trod enc Tryz.prog W 0 (fun _ => true) true 23 (.slice a0 len cap) d ps) (hS : S.P 23 d) :
   ∃ L : List ByteArray, L.length = len ∧ L.length ≤ maxLen ∧ (∀ s ∈ L, s.size ≤ K) ∧ SR W a0 L := by
 obtain ⟨L, h1, h2, h3, h4⟩ := open_rowsD S (n := 1) Tryz.underlying23 (by kernel_rfl) (by omega) (fun _ (s : ByteArray) cs => cs = [.string s] ∧ s.size ≤ K) (fun fuel cs y hlen hP hy => by
   obtain ⟨s, rfl, rfl, _⟩ := DataW.trod_string Tryz.underlying9 hy
   have := S.str hP
   exact ⟨s, rfl, by simpa using this⟩) h hS
 refine ⟨L, h1, h2, fun s hs => by obtain ⟨cs, hg⟩ := h3 s hs; exact hg.2, fun k s hk => ?_⟩
 obtain ⟨g, o, cs, e, hg, _, hc, rfl, _⟩ := h4 k s hk
 refine ⟨g, o, e, hg, ?_⟩
 have := hc 0 _ rfl
 simpa using this
structure RlIn (K : Nat) (w : World) (r : Rl) : Prop where
 tg : SR w r.tg.1 r.tg.2.2
 nd : SR w r.nd.1 r.nd.2.2
 rc : SR w r.rc.1 r.rc.2.2
 t1 : r.tg.2.2.length ≤ maxLen
 n1 : r.nd.2.2.length ≤ maxLen
 r1 : r.rc.2.2.length ≤ maxLen
 t2 : ∀ s ∈ r.tg.2.2, s.size ≤ K
 n2 : ∀ s ∈ r.nd.2.2, s.size ≤ K
 r2 : ∀ s ∈ r.rc.2.2, s.size ≤ K
def RLI (K : Nat) (w : World) (A : Option Addr) (L : List Rl) : Prop := RG encRl 3 w A L ∧ ∀ r ∈ L, RlIn K w r
structure MkV where
 ma : Option Addr
 mc : Nat
 ml : List Pr
 ra : Option Addr
 rc : Nat
 rl : List Rl
structure MkIn (K : Nat) (w : World) (x : MkV) : Prop where
 m1 : x.ml.length ≤ maxLen
 r1 : x.rl.length ≤ maxLen
 m2 : ∀ p ∈ x.ml, p.1.size ≤ K ∧ p.2.size ≤ K
 mr : PR w x.ma x.ml
 rr : RLI K w x.ra x.rl
end
section
open Go.RowKit Go.Deep Go.ChangeShapes Go.WideShapes Ln Pth Vf
structure Ac4 where
 way : Int
 p : ByteArray
 q : ByteArray
 A : Option Addr
 c : Nat
 b : T
 more : Bool
end
end Go.Proofs.YtpheeheikigenaaGreatDoor
namespace Go.Proofs.YtpheeheikigenaaGreatDoor.Ln
theorem oddB_no {s : T} (h : s.getLast? ≠ some 92) : oddB s = false := by
 unfold oddB
 rw [← List.head?_reverse] at h
 cases hs : s.reverse with
 | nil => rfl
 | cons x t =>
   rw [hs] at h
   have hx : x ≠ 92 := fun e => h (by rw [e]; rfl)
   rw [List.takeWhile_cons_of_neg (by simpa using hx)]
   rfl
theorem spl_snoc {c x : UInt8} (hx : x ≠ c) : ∀ a : T, spl c (a ++ [x]) = (spl c a).dropLast ++ [(spl c a).getLastD [] ++ [x]]
 | [] => by
   rw [List.nil_append]
   show (if x = c then _ else _) = _
   rw [if_neg hx]; rfl
 | z :: a => by
   have ih := spl_snoc hx a
   rw [List.cons_append, spl, spl, ih]
   cases hs : spl c a with
   | nil => exact absurd hs (spl_ne c a)
   | cons h t =>
     by_cases hz : z = c
     · rw [if_pos hz, if_pos hz]
       simp
     · rw [if_neg hz, if_neg hz]
       cases t with
       | nil => simp
       | cons t0 t => simp
theorem spl_end (c : UInt8) (a : T) : spl c (a ++ [c]) = spl c a ++ [[]] := spl_both c a []
theorem last_no {a : T} (h : a.getLast? ≠ some 92) : ∀ x, (spl 10 a).getLast? = some x → x.getLast? ≠ some 92 := by
 intro x hx
 rcases List.eq_nil_or_concat a with rfl | ⟨a', y, rfl⟩
 · have : x = [] := by simpa [spl] using hx.symm
   rw [this]; simp
 · rw [List.concat_eq_append] at *
   by_cases hy : y = 10
   · subst hy
     rw [spl_end] at hx
     have : x = [] := by simpa using hx.symm
     rw [this]; simp
   · rw [spl_snoc hy] at hx
     have : x = (spl 10 a').getLastD [] ++ [y] := by simpa using hx.symm
     rw [this]
     simpa using h
theorem last_tail {l : T} (h : l.getLast? ≠ some 92) : l.tail.getLast? ≠ some 92 := by
 cases l with
 | nil => exact h
 | cons x t =>
   cases t with
   | nil => simp
   | cons y t => simpa [List.getLast?_cons_cons] using h
theorem last_tab {l : T} (h : l.getLast? ≠ some 92) : (dropTab l).getLast? ≠ some 92 := by
 unfold dropTab
 split
 · exact last_tail h
 · exact h
theorem last_drop {l : T} (p : UInt8 → Bool) (h : l.getLast? ≠ some 92) : (l.dropWhile p).getLast? ≠ some 92 := by
 induction l with
 | nil => exact h
 | cons x t ih =>
   rw [List.dropWhile_cons]
   split
   · exact ih (last_tail h)
   · exact h
def Cl (L : List T) : Prop := ∀ x, L.getLast? = some x → x.getLast? ≠ some 92
theorem Cl.tail {n : T} {r : List T} (h : Cl (n :: r)) : Cl r := by
 intro x hx
 refine h x ?_
 cases r with
 | nil => cases hx
 | cons y r => rw [List.getLast?_cons_cons]; exact hx
theorem Cl.one {n : T} (h : Cl [n]) : n.getLast? ≠ some 92 := h n rfl
theorem Cl.suf {L M : List T} (h : Cl L) (hs : M <:+ L) : Cl M := by
 obtain ⟨P, rfl⟩ := hs
 intro x hx
 refine h x ?_
 rw [List.getLast?_append, hx]; rfl
theorem recF_app (M : List T) : ∀ (rest : List T) (s acc : T), (rest = [] → oddB s = false) → Cl rest → recF (rest ++ M) s acc = ((recF rest s acc).1, (recF rest s acc).2 ++ M)
 | [], s, acc, h, _ => by
   rw [List.nil_append]
   cases M with
   | nil => rfl
   | cons n r =>
     have h0 := h rfl
     show (if oddB s = true then _ else _) = _
     rw [h0]
     rfl
 | n :: r, s, acc, h, hc => by
   rw [List.cons_append, recF, recF]
   split
   · exact recF_app M r _ _ (fun e => by subst e; exact oddB_no (last_tab hc.one)) hc.tail
   · rfl
theorem othF_app (M : List T) : ∀ (rest : List T) (s : T), (rest = [] → oddB s = false) → Cl rest → othF (rest ++ M) s = ((othF rest s).1, (othF rest s).2 ++ M)
 | [], s, h, _ => by
   have h0 := h rfl
   rw [List.nil_append]
   cases M with
   | nil => rfl
   | cons n r => rw [othF, if_neg (by rw [h0]; simp), othF, if_neg (by rw [h0]; simp)]; rfl
 | n :: r, s, h, hc => by
   rw [List.cons_append, othF, othF]
   split
   · refine othF_app M r _ (fun e => ?_) hc.tail
     subst e
     apply oddB_no
     have hn := last_drop blk hc.one
     change (trimL n).getLast? ≠ some 92 at hn
     rw [List.getLast?_append]
     cases ht : (trimL n).getLast? with
     | none => unfold front; simp
     | some y => rw [ht] at hn; exact hn
   · rfl
theorem recF_suf : ∀ (rest : List T) (s acc : T), (recF rest s acc).2 <:+ rest
 | [], _, _ => List.suffix_refl _
 | n :: r, s, acc => by
   rw [recF]
   split
   · exact (recF_suf r _ _).trans (List.suffix_cons _ _)
   · exact List.suffix_refl _
theorem othF_suf : ∀ (rest : List T) (s : T), (othF rest s).2 <:+ rest
 | [], _ => List.suffix_refl _
 | n :: r, s => by
   rw [othF]
   split
   · exact (othF_suf r _).trans (List.suffix_cons _ _)
   · exact List.suffix_refl _
theorem linesA_app (M : List T) : ∀ (f : Nat) (L : List T), L.length ≤ f → Cl L → linesA (L ++ M) = linesA L ++ linesA M
 | 0, L, h, _ => by
   obtain rfl : L = [] := List.length_eq_zero_iff.1 (by omega)
   rfl
 | f + 1, [], _, _ => rfl
 | f + 1, l :: rest, h, hc => by
   simp only [List.length_cons] at h
   have k1 := recF_len rest l.tail l.tail
   have k2 := othF_len rest l
   have e1 := recF_app M rest l.tail l.tail (fun e => by subst e; exact oddB_no (last_tail hc.one)) hc.tail
   have e2 := othF_app M rest l (fun e => by subst e; exact oddB_no hc.one) hc.tail
   have i1 := linesA_app M f (recF rest l.tail l.tail).2 (by omega) (hc.tail.suf (recF_suf _ _ _))
   have i2 := linesA_app M f (othF rest l).2 (by omega) (hc.tail.suf (othF_suf _ _))
   rw [List.cons_append, linesA_cons, linesA_cons, e1, e2]
   dsimp only
   rw [i1, i2]
   split
   · rfl
   · rw [List.append_assoc]
theorem linesA_gap (M : List T) : linesA ([] :: M) = linesA M := by
 have h : othF M [] = ([], M) := by
   cases M with
   | nil => rfl
   | cons n r => rfl
 rw [linesA_cons, h]
 rfl
theorem cutL_both (a b : T) : cutL (a ++ 10 :: b) = spl 10 a ++ cutL b := by
 unfold cutL
 rw [spl_both]
 have hb := spl_ne 10 b
 have h1 : (spl 10 a ++ spl 10 b).getLastD [] = (spl 10 b).getLastD [] := by
   rw [List.getLastD_eq_getLast?, List.getLastD_eq_getLast?, List.getLast?_append]
   cases h : (spl 10 b).getLast? with
   | none => exact absurd (List.getLast?_eq_none_iff.1 h) hb
   | some x => rfl
 rw [h1]
 split
 · rw [List.dropLast_append_of_ne_nil hb]
 · rfl
theorem two_lines (a b : T) (h1 : a.getLast? ≠ some 92) (h2 : ∀ a', a = a' ++ [10] → a'.getLast? ≠ some 92) : linesA (cutL (a ++ 10 :: b)) = linesA (cutL a) ++ linesA (cutL b) := by
 rw [cutL_both]
 rcases List.eq_nil_or_concat a with rfl | ⟨a', y, rfl⟩
 · exact linesA_gap _
 · rw [List.concat_eq_append] at *
   by_cases hy : y = 10
   · subst hy
     have hc := last_no (h2 a' rfl)
     have he : cutL (a' ++ [10]) = spl 10 a' := by
       unfold cutL
       rw [spl_end, if_pos (by simp), List.dropLast_concat]
     rw [he, spl_end, List.append_assoc, linesA_app _ _ _ (Nat.le_refl _) hc, List.singleton_append, linesA_gap]
   · have hc := last_no h1
     have he : cutL (a' ++ [y]) = spl 10 (a' ++ [y]) := by
       unfold cutL
       rw [if_neg]
       rw [spl_snoc hy]; simp
     rw [he, linesA_app _ _ _ (Nat.le_refl _) hc]
theorem readF_zero {s : T} (h : (readF s).2 = 0) : 0 ∉ s ∧ readF s = (linesA (cutL s), 0) := by
 unfold readF at h ⊢
 split at h
 · cases h
 · rename_i h1
   split at h
   · cases h
   · rename_i h2
     exact ⟨h2, by rw [if_neg h1, if_neg h2]⟩
theorem parts (a b : T) (ha : a.length ≤ 500) (hb : b.length ≤ 500) (ea : (readF a).2 = 0) (eb : (readF b).2 = 0) (h1 : a.getLast? ≠ some 92) (h2 : ∀ a', a = a' ++ [10] → a'.getLast? ≠ some 92) : readF (a ++ 10 :: b) = ((readF a).1 ++ (readF b).1, 0) := by
 obtain ⟨za, ra⟩ := readF_zero ea
 obtain ⟨zb, rb⟩ := readF_zero eb
 rw [ra, rb]
 unfold readF
 rw [if_neg (by simp only [List.length_append, List.length_cons]; omega), if_neg (by simp [za, zb]), two_lines a b h1 h2]
end Go.Proofs.YtpheeheikigenaaGreatDoor.Ln
namespace Go.Proofs.YtpheeheikigenaaGreatDoor.Ln
def okc (c : UInt8) : Prop := c ≠ 0 ∧ c ≠ 9 ∧ c ≠ 10 ∧ c ≠ 32 ∧ c ≠ 35 ∧ c ≠ 92
def okw (w : T) : Prop := w ≠ [] ∧ ∀ c ∈ w, okc c
def Jo (sep : T) : List T → T
 | [] => []
 | w :: ws => w ++ ws.flatMap (sep ++ ·)
theorem Jo_snoc (sep : T) (w : T) (ws : List T) (v : T) : Jo sep (w :: ws ++ [v]) = Jo sep (w :: ws) ++ sep ++ v := by
 simp [Jo]
theorem Jo_cons (sep : T) (w v : T) (ws : List T) : Jo sep (w :: v :: ws) = w ++ sep ++ Jo sep (v :: ws) := by
 simp [Jo]
theorem okw.last {w : T} (h : okw w) : ∃ x y, w = x ++ [y] ∧ okc y := by
 rcases List.eq_nil_or_concat w with rfl | ⟨x, y, rfl⟩
 · exact absurd rfl h.1
 · exact ⟨x, y, by simp, h.2 y (by simp)⟩
theorem okw.head {w : T} (h : okw w) : ∃ y x, w = y :: x ∧ okc y := by
 cases w with
 | nil => exact absurd rfl h.1
 | cons y x => exact ⟨y, x, rfl, h.2 y (by simp)⟩
theorem blk_no {c : UInt8} (h : okc c) : blk c = false := by
 obtain ⟨_, h9, _, h32, _, _⟩ := h
 simp [blk, h9, h32]
theorem trimR_none {a : T} {y : UInt8} (h : okc y) : trimR (a ++ [y]) = a ++ [y] := by
 simp [trimR, blk_no h]
theorem trimL_none {a : T} {y : UInt8} (h : okc y) : trimL (y :: a) = y :: a := by
 simp [trimL, List.dropWhile, blk_no h]
theorem odd_last {a : T} {y : UInt8} (h : okc y) : oddB (a ++ [y]) = false := oddB_no (by
 obtain ⟨_, _, _, _, _, h92⟩ := h
 simpa using h92)
theorem Jo_last (sep : T) {w : T} (hw : okw w) (ws : List T) (hs : ∀ x ∈ ws, okw x) : ∃ a z, Jo sep (w :: ws) = a ++ [z] ∧ okc z := by
 rcases List.eq_nil_or_concat ws with rfl | ⟨us, v, rfl⟩
 · obtain ⟨x, z, e, hz⟩ := hw.last
   exact ⟨x, z, by rw [← e]; simp [Jo], hz⟩
 · obtain ⟨x, z, rfl, hz⟩ := (hs v (by simp)).last
   exact ⟨Jo sep (w :: us) ++ sep ++ x, z, by rw [List.concat_eq_append, ← List.cons_append, Jo_snoc]; simp, hz⟩
theorem Jo_head (sep : T) {w : T} (hw : okw w) (ws : List T) : ∃ y x, Jo sep (w :: ws) = y :: x ∧ okc y := by
 obtain ⟨y, x, rfl, hy⟩ := hw.head
 exact ⟨y, _, rfl, hy⟩
theorem comm_none : ∀ {s : T}, (35 : UInt8) ∉ s → comm s = s
 | [], _ => rfl
 | [c], h => by
   rw [comm, if_neg (fun e => h (by simp [e]))]
 | c :: d :: l, h => by
   rw [comm, if_neg (fun e => h (by simp [e.2])), if_neg (fun e => h (by simp [e])), comm_none (fun e => h (List.mem_cons_of_mem _ e))]
theorem readF_ok {s : T} (h1 : s.length ≤ 16384) (h2 : (0 : UInt8) ∉ s) : readF s = (linesA (cutL s), 0) := by
 unfold readF
 rw [if_neg (by omega), if_neg h2]
end Go.Proofs.YtpheeheikigenaaGreatDoor.Ln
namespace Go.Proofs.YtpheeheikigenaaGreatDoor
namespace Rd
open Go.RowKit Ln Pth Vf Mc
theorem cutL_nil : linesA (cutL []) = [] := rfl
theorem foldE_app (f : Sx → Line → Except Nat Sx) : ∀ (A B : List Line) (s : Sx), foldE f (A ++ B) s = match foldE f A s with | .error e => .error e | .ok s' => foldE f B s'
 | [], B, s => rfl
 | x :: A, B, s => by
   rw [List.cons_append, foldE_cons, foldE_cons]
   cases f s x with
   | error e => rfl
   | ok s' => exact foldE_app f A B s'
end Rd
end Go.Proofs.YtpheeheikigenaaGreatDoor
namespace Go.Proofs.YtpheeheikigenaaGreatDoor
namespace Rd
open Go.RowKit Ln Pth Vf Mc
theorem split_uniq {c : UInt8} : ∀ {a a' b b' : T}, (∀ d ∈ a, d ≠ c) → (∀ d ∈ a', d ≠ c) → a ++ c :: b = a' ++ c :: b' → a = a' ∧ b = b'
 | [], [], b, b', _, _, h => by simpa using h
 | [], y :: a', b, b', _, h2, h => by
   rw [List.nil_append, List.cons_append] at h
   injection h with h
   exact absurd h.symm (h2 y (by simp))
 | x :: a, [], b, b', h1, _, h => by
   rw [List.nil_append, List.cons_append] at h
   injection h with h
   exact absurd h (h1 x (by simp))
 | x :: a, y :: a', b, b', h1, h2, h => by
   rw [List.cons_append, List.cons_append] at h
   injection h with h3 h4
   obtain ⟨h5, h6⟩ := split_uniq (fun d hd => h1 d (by simp [hd])) (fun d hd => h2 d (by simp [hd])) h4
   exact ⟨by rw [h3, h5], h6⟩
theorem cut_app {c : UInt8} {a b : T} (h : ∀ d ∈ a, d ≠ c) : Lib.cut (a ++ c :: b) [c] = (a, b, true) := by
 rcases cut_at (a ++ c :: b) c with ⟨h1, _⟩ | ⟨a', b', h1, h2, h3⟩
 · exact absurd (by simp) h1
 · obtain ⟨rfl, rfl⟩ := split_uniq h h2 h1
   exact h3
theorem sLt_xy : sLt (bs [120]) (bs [121]) = true := by decide +kernel
theorem sLt_yz : sLt (bs [121]) (bs [122]) = true := by decide +kernel
theorem sLt_xz : sLt (bs [120]) (bs [122]) = true := by decide +kernel
theorem ne_xy : bs [120] ≠ bs [121] := by decide +kernel
theorem put_y (t x : ByteArray) : putG (bs [121], t) [(bs [120], x)] = [(bs [120], x), (bs [121], t)] := by
 rw [putG, if_pos sLt_xy]; rfl
theorem put_x (t x : ByteArray) : putG (bs [120], t) [(bs [120], x)] = [(bs [120], t)] := by
 rw [putG, if_neg (by rw [sLt_irr]; simp), if_pos rfl]
theorem one_line {l a m : T} {y z : UInt8} (h1 : l = y :: m) (h2 : l = a ++ [z]) (hy : okc y) (hz : okc z) (h10 : (10 : UInt8) ∉ l) (h35 : (35 : UInt8) ∉ l) : linesA (cutL l) = [(false, l)] := by
 have hs := spl_none h10
 have e : cutL l = [l] := by
   unfold cutL
   rw [hs, if_neg (by rw [h1]; simp)]
 have ho : oddB l = false := by rw [h2]; exact odd_last hz
 have hp : plainF l = l := by
   unfold plainF
   rw [comm_none h35, h2, trimR_none hz, ← h2, h1, trimL_none hy]
 rw [e, linesA_cons, if_neg (by rw [h1]; exact hy.2.1)]
 have eo : othF [] l = (l, []) := by rw [othF, ho]; rfl
 rw [eo, hp, if_neg (by rw [h1]; simp), linesA_nil]
 rfl
theorem textF_plain (auto l : Mc.Mp) (d : Nat) (opn : List T) (s : T) (r : Nat) (hs : s.length ≤ 16384) (h : ∀ c ∈ s, c ≠ 36) : textF auto l d opn s r = .ok (s, r) := by
 rw [textF_eq, if_neg (by omega)]
 have := scan_front (oneF (refD auto l d opn)) [] r s [] h (by simp)
 rw [List.append_nil] at this
 rw [this, if_neg (by simp; omega)]
 rfl
theorem refD_name (l : Mc.Mp) (n : UInt8) (hn : n ≠ 36 ∧ n ≠ 58) (r : Nat) : refD [] l 40 [] [n] r = (match lastV l [n] with | none => .ok ([], r) | some v => textF [] l 39 [[n]] v r) := by
 have e1 : refD [] l 40 [] [n] r = refF [] l (textF [] l 39) [] [n] r := rfl
 have e2 : textF [] l 39 [] [n] r = .ok ([n], r) := textF_plain _ _ _ _ _ _ (by simp) (by simp [hn.1])
 have e3 : (Lib.cut [n] [58]).2.2 = false := by
   rcases cut_at [n] 58 with ⟨_, h⟩ | ⟨a, b, h1, h2, h3⟩
   · rw [h]
   · exfalso
     have : (58 : UInt8) ∈ [n] := by rw [h1]; simp
     simp at this
     exact hn.2 this.symm
 rw [e1]
 unfold refF
 rw [e2]
 dsimp only
 rw [if_neg (by rw [e3]; simp)]
 unfold valueF
 have : lastV [] [n] = none := rfl
 rw [this]
 dsimp only
 cases hl : lastV l [n] with
 | none => rfl
 | some v => rfl
theorem scan_ref (l : Mc.Mp) (n : UInt8) (hn : n ≠ 36 ∧ n ≠ 58 ∧ n ≠ 40 ∧ n ≠ 41) (rest out : T) (r : Nat) (hr : r < 10000) (v : T) (hv : refD [] l 40 [] [n] (r + 1) = .ok (v, r + 1)) : scanF (oneF (refD [] l 40 [])) (36 :: 40 :: n :: 41 :: rest) 0 out r = if 16384 < (out ++ v).length then .error 3 else scanF (oneF (refD [] l 40 [])) rest 0 (out ++ v) (r + 1) := by
 rw [scan_one]
 have hc : closeF 40 41 0 (n :: 41 :: rest) = some 1 := by
   rw [closeF, if_neg hn.2.2.1, if_neg hn.2.2.2, closeF, if_neg (by decide), if_pos rfl]
   rfl
 have e : oneF (refD [] l 40 []) (40 :: n :: 41 :: rest) r = .ok (v, 3, r + 1) := by
   unfold oneF
   dsimp only
   rw [if_neg (by decide), if_neg (by omega), if_pos rfl, hc]
   dsimp only
   rw [show (n :: 41 :: rest).take 1 = [n] from rfl, hv]
 rw [e]
 rfl
theorem scan_dd (one : T → Nat → Except Nat (T × Nat × Nat)) {r : Nat} (h : one [36] r = .ok ([36], 1, r)) (out : T) (ho : out.length < 16384) : scanF one [36, 36] 0 out r = .ok (out ++ [36], r) := by
 rw [scan_one, h]
 dsimp only
 rw [if_neg (by simp; omega)]
 rfl
def low (v : T) : Prop := ∀ c ∈ v, 97 ≤ c ∧ c ≤ 122
theorem low_ne {v : T} (h : low v) {x : UInt8} (hx : x < 97) : ∀ c ∈ v, c ≠ x := by
 intro c hc e
 have := (h c hc).1
 rw [e, UInt8.le_iff_toNat_le] at this
 rw [UInt8.lt_iff_toNat_lt] at hx
 omega
theorem exp_v (mac : KV ByteArray) (hy : lastV (mpOf mac) [121] = none) {v : T} (hv : low v) (hl : v.length ≤ 60) : expS mac (v ++ [36, 40, 121, 41, 36, 36]) = .ok (v ++ [36]) := by
 have h36 := low_ne hv (x := 36) (by decide)
 have e : textF [] (mpOf mac) 40 [] (v ++ [36, 40, 121, 41, 36, 36]) 0 = .ok (v ++ [36], 1) := by
   rw [textF_eq, if_neg (by simp; omega), scan_front _ _ _ _ _ h36 (by simp), if_neg (by simp; omega), scan_ref (mpOf mac) 121 (by decide) [36, 36] _ 0 (by omega) [] (by rw [refD_name _ _ (by decide), hy]), if_neg (by simp; omega), scan_dd _ rfl ([] ++ v ++ []) (by simp; omega)]
   simp
 unfold expS expF
 rw [e]
 rfl
theorem dbl_v {v : T} (hv : low v) : dbl (v ++ [36]) = v ++ [36, 36] := by
 have h36 := low_ne hv (x := 36) (by decide)
 have : ∀ v : T, (∀ c ∈ v, c ≠ 36) → dbl v = v := by
   intro v
   induction v with
   | nil => intro _; rfl
   | cons c t ih =>
     intro h
     have e : dbl (c :: t) = (if c = 36 then [36, 36] else [c]) ++ dbl t := rfl
     rw [e, if_neg (h c (by simp)), ih (fun d hd => h d (by simp [hd]))]
     rfl
 unfold dbl at this ⊢
 rw [List.flatMap_append, this v h36]
 rfl
def tailM : T := [36, 40, 121, 41, 36, 36]
def opT (op : Nat) : T := [[61], [58, 61], [58, 58, 61], [43, 61], [63, 61]].getD op []
def preT (had : Nat) : T := if 1 < had then [120, 32, 61, 32, 111, 108, 100] else if 0 < had then [120, 32, 61] else []
def defT (op : Nat) (v : T) : T := 120 :: 32 :: opT op ++ 32 :: (v ++ tailM)
def macT (op had : Nat) (v : T) : T := preT had ++ 10 :: (defT op v ++ 10 :: ([121, 32, 61, 32, 122] ++ 10 :: []))
def wantV (op had : Nat) (given : Bool) (v : T) : T :=
 if given then [103, 105, 118, 101, 110]
 else if op = 1 ∨ op = 2 then v ++ [36, 36]
 else if op = 3 ∧ 1 < had then [111, 108, 100, 32] ++ (v ++ tailM)
 else if op = 4 ∧ had = 1 then []
 else if op = 4 ∧ had = 2 then [111, 108, 100]
 else v ++ tailM
def givS (given : Bool) : Sx := if given then ⟨[(bs [120], bs [103, 105, 118, 101, 110])], [[120]], [], 0⟩ else ⟨[], [], [], 0⟩
theorem mem_def {op : Nat} (ho : op < 5) {v : T} (hv : low v) {c : UInt8} (h : c ∈ defT op v) : c = 120 ∨ c = 32 ∨ c = 61 ∨ c = 58 ∨ c = 43 ∨ c = 63 ∨ (97 ≤ c ∧ c ≤ 122) ∨ c = 36 ∨ c = 40 ∨ c = 41 := by
 unfold defT at h
 simp only [List.mem_cons, List.mem_append, List.cons_append] at h
 rcases h with h | h | h | h | h | h
 · exact .inl h
 · exact .inr (.inl h)
 · have : ∀ op < 5, ∀ c ∈ opT op, c = 61 ∨ c = 58 ∨ c = 43 ∨ c = 63 := by decide
   have := this op ho c h
   rcases this with h | h | h | h <;> simp [h]
 · exact .inr (.inl h)
 · exact .inr (.inr (.inr (.inr (.inr (.inr (.inl (hv c h)))))))
 · have : ∀ c ∈ tailM, c = 36 ∨ c = 40 ∨ (97 ≤ c ∧ c ≤ 122) ∨ c = 41 := by decide
   rcases this c h with h | h | h | h <;> simp [h]
theorem def_no {op : Nat} (ho : op < 5) {v : T} (hv : low v) {x : UInt8} (hx : x = 0 ∨ x = 10 ∨ x = 35) : x ∉ defT op v := by
 intro h
 have := mem_def ho hv h
 rcases hx with rfl | rfl | rfl <;> revert this <;> decide
theorem def_last (op : Nat) (v : T) : (defT op v).getLast? = some 36 := by
 have : defT op v = (120 :: 32 :: opT op ++ 32 :: (v ++ [36, 40, 121, 41, 36])) ++ [36] := by simp [defT, tailM]
 rw [this, List.getLast?_concat]
theorem def_line {op : Nat} (ho : op < 5) {v : T} (hv : low v) : linesA (cutL (defT op v)) = [(false, defT op v)] :=
 one_line (a := 120 :: 32 :: opT op ++ 32 :: (v ++ [36, 40, 121, 41, 36])) (y := 120) (z := 36) rfl (by simp [defT, tailM]) (by unfold okc; decide) (by unfold okc; decide) (def_no ho hv (by simp)) (def_no ho hv (by simp))
theorem def_defs {op : Nat} (ho : op < 5) {v : T} (hv : low v) (hn : v ≠ []) : defsF (defT op v) = some ([120], opT op, v ++ tailM) := by
 obtain ⟨c, t, rfl⟩ : ∃ c t, v = c :: t := by cases v with | nil => exact absurd rfl hn | cons c t => exact ⟨c, t, rfl⟩
 have hc := hv c (by simp)
 have hb : blk c = false := by
   unfold blk
   have h1 : c ≠ 32 := by rintro rfl; exact absurd hc.1 (by decide)
   have h2 : c ≠ 9 := by rintro rfl; exact absurd hc.1 (by decide)
   simp [h1, h2]
 have e1 : (defT op (c :: t)).takeWhile nameC = [120] := rfl
 have e2 : (defT op (c :: t)).dropWhile nameC = 32 :: opT op ++ 32 :: ((c :: t) ++ tailM) := rfl
 unfold defsF
 rw [e1, if_pos (by decide), e2]
 have e3 : trimL (32 :: opT op ++ 32 :: ((c :: t) ++ tailM)) = opT op ++ 32 :: ((c :: t) ++ tailM) := by
   rcases (by omega : op = 0 ∨ op = 1 ∨ op = 2 ∨ op = 3 ∨ op = 4) with rfl | rfl | rfl | rfl | rfl <;> rfl
 have e4 : trimL (32 :: ((c :: t) ++ tailM)) = (c :: t) ++ tailM := by
   unfold trimL
   rw [List.dropWhile_cons_of_pos (by decide), List.cons_append, List.dropWhile_cons_of_neg (by simp [hb])]
 have e5 : opF (opT op ++ 32 :: ((c :: t) ++ tailM)) opsL = some (opT op, trimL (32 :: ((c :: t) ++ tailM))) := by
   rcases (by omega : op = 0 ∨ op = 1 ∨ op = 2 ∨ op = 3 ∨ op = 4) with rfl | rfl | rfl | rfl | rfl <;> rfl
 rw [e3, e5, e4]
 rfl
theorem macs_plain (fs : St) (cwd : T) (d : Nat) (op had : Nat) (ho : op < 5) (hh : had < 3) (given : Bool) {v : T} (hv : low v) (hn : v ≠ []) (hl : v.length ≤ 60) :
   textR fs cwd d (givS given) (macT op had v) = .ok ⟨[(bs [120], bs (wantV op had given v)), (bs [121], bs [122])], (givS given).giv, [], 0⟩ := by
 have hlen : (macT op had v).length ≤ 16384 := by
   have h1 : ∀ op < 5, (opT op).length ≤ 3 := by decide
   have h2 : ∀ had < 3, (preT had).length ≤ 7 := by decide
   have := h1 op ho
   have := h2 had hh
   simp [macT, defT, tailM]
   omega
 have h0 : (0 : UInt8) ∉ macT op had v := by
   intro h
   unfold macT at h
   simp only [List.mem_append, List.mem_cons] at h
   have hp : ∀ had < 3, (0 : UInt8) ∉ preT had := by decide
   rcases h with h | h | h | h | h | h
   · exact hp had hh h
   · exact absurd h (by decide)
   · exact def_no ho hv (by simp) h
   · exact absurd h (by decide)
   · exact absurd h (by decide)
   · exact absurd h (by decide)
 have hpre : ∀ had < 3, (preT had).getLast? ≠ some 92 ∧ (preT had).getLast? ≠ some 10 := by decide
 have hL : linesA (cutL (macT op had v)) = linesA (cutL (preT had)) ++ [(false, defT op v), (false, [121, 32, 61, 32, 122])] := by
   unfold macT
   rw [two_lines _ _ (hpre had hh).1 (fun a e => absurd (by rw [e]; simp) (hpre had hh).2), two_lines (defT op v) _ (by rw [def_last]; decide) (fun a e => absurd (show (defT op v).getLast? = some 10 by rw [e]; simp) (by rw [def_last]; decide)), def_line ho hv, two_lines [121, 32, 61, 32, 122] [] (by decide) (fun a e => absurd (show ([121, 32, 61, 32, 122] : T).getLast? = some 10 by rw [e]; simp) (by decide)), cutL_nil]
   rfl
 have hR : readF (macT op had v) = (linesA (cutL (preT had)) ++ [(false, defT op v), (false, [121, 32, 61, 32, 122])], 0) := by rw [readF_ok hlen h0, hL]
 rw [textR_eq]
 unfold bodyR
 rw [hR, if_neg (by simp)]
 dsimp only
 have hline : ∀ s : Sx, lineF fs cwd (recR fs cwd d) s (false, defT op v) = defineF s [120] (opT op) (v ++ tailM) := fun s => by
   unfold lineF
   rw [if_neg (by simp)]
   dsimp only
   rw [def_defs ho hv hn]
 have hex : ∀ mac : KV ByteArray, lastV (mpOf mac) [121] = none → expS mac (v ++ tailM) = .ok (v ++ [36]) := fun mac h => exp_v mac h hv hl
 have hdb := dbl_v hv
 have hlast : ∀ s : Sx, s.files = 0 → s.rules = [] → (∃ x, s.mac = [(bs [120], x)]) → [121] ∉ s.giv → foldE (lineF fs cwd (recR fs cwd d)) [(false, [121, 32, 61, 32, 122])] s = .ok { s with mac := s.mac ++ [(bs [121], bs [122])] } := by
   rintro ⟨mac, giv, rules, files⟩ h1 h2 ⟨x, h3⟩ h4
   dsimp only at h1 h2 h3 h4
   subst h1 h2 h3
   rw [foldE_cons]
   have e : lineF fs cwd (recR fs cwd d) ⟨[(bs [120], x)], giv, [], 0⟩ (false, [121, 32, 61, 32, 122]) = defineF ⟨[(bs [120], x)], giv, [], 0⟩ [121] [61] [122] := rfl
   rw [e]
   unfold defineF
   rw [if_neg (by
     rintro (h | h)
     · exact h4 h
     · exact absurd h.1 (by decide))]
   have e1 : valV [(bs [120], x)] [121] [61] [122] = .ok [122] := rfl
   dsimp only
   rw [e1]
   dsimp only
   rw [if_neg (by simp), put_y]
   rfl
 have hpre2 : foldE (lineF fs cwd (recR fs cwd d)) (linesA (cutL (preT had))) (givS given) = .ok (if given then givS true else ⟨(if 1 < had then [(bs [120], bs [111, 108, 100])] else if 0 < had then [(bs [120], bs [])] else []), [], [], 0⟩) := by
   rcases (by omega : had = 0 ∨ had = 1 ∨ had = 2) with rfl | rfl | rfl <;> cases given <;> rfl
 rw [foldE_app, hpre2]
 dsimp only
 rw [show ([(false, defT op v), (false, [121, 32, 61, 32, 122])] : List Line) = [(false, defT op v)] ++ [(false, [121, 32, 61, 32, 122])] from rfl, foldE_app, foldE_cons, hline]
 cases given with
 | true =>
   have e : defineF (givS true) [120] (opT op) (v ++ tailM) = .ok (givS true) := by
     unfold defineF
     rw [if_pos (.inl (by decide))]
   rw [if_pos rfl, e]
   dsimp only
   rw [foldE_nil]
   exact hlast (givS true) rfl rfl ⟨_, rfl⟩ (by decide)
 | false =>
   rw [if_neg (by decide)]
   have key : ∀ mac : KV ByteArray, ((had = 0 ∧ mac = []) ∨ (had = 1 ∧ mac = [(bs [120], bs [])]) ∨ (had = 2 ∧ mac = [(bs [120], bs [111, 108, 100])])) → defineF ⟨mac, [], [], 0⟩ [120] (opT op) (v ++ tailM) = .ok ⟨[(bs [120], bs (wantV op had false v))], [], [], 0⟩ := by
     intro mac hm
     have e1 : lastV (mpOf mac) [121] = none := by rcases hm with ⟨_, rfl⟩ | ⟨_, rfl⟩ | ⟨_, rfl⟩ <;> rfl
     have e2 := hex mac e1
     have e4 : ∀ t, putG (bs [120], t) mac = [(bs [120], t)] := fun t => by
       rcases hm with ⟨_, rfl⟩ | ⟨_, rfl⟩ | ⟨_, rfl⟩
       · rfl
       · exact put_x _ _
       · exact put_x _ _
     have e5 : ¬ ((getG mac (bs [120])).isSome = false ∧ 200 ≤ mac.length) := by rcases hm with ⟨_, rfl⟩ | ⟨_, rfl⟩ | ⟨_, rfl⟩ <;> simp
     have e3 : ∀ t, valV mac [120] (opT op) (v ++ tailM) = .ok t → ¬ (opT op = [63, 61] ∧ (getG mac (bs [120])).isSome = true) → defineF ⟨mac, [], [], 0⟩ [120] (opT op) (v ++ tailM) = .ok ⟨[(bs [120], bs t)], [], [], 0⟩ := fun t ht hq => by
       unfold defineF
       rw [if_neg (by
         rintro (h | h)
         · cases h
         · exact hq h)]
       dsimp only
       rw [ht]
       dsimp only
       rw [if_neg e5, e4]
     have o1 : oldV [(bs [120], bs [])] [120] = [] := rfl
     have o2 : oldV [(bs [120], bs [111, 108, 100])] [120] = [111, 108, 100] := rfl
     have o0 : oldV [] [120] = [] := rfl
     rcases (by omega : op = 0 ∨ op = 1 ∨ op = 2 ∨ op = 3 ∨ op = 4) with rfl | rfl | rfl | rfl | rfl
     · refine e3 _ ?_ (fun h => absurd h.1 (by decide))
       unfold valV
       rw [if_neg (by decide), if_neg (fun h => absurd h.1 (by decide))]
       rfl
     · refine e3 _ ?_ (fun h => absurd h.1 (by decide))
       unfold valV
       rw [if_pos (by decide), e2]
       dsimp only
       rw [hdb]
       rfl
     · refine e3 _ ?_ (fun h => absurd h.1 (by decide))
       unfold valV
       rw [if_pos (by decide), e2]
       dsimp only
       rw [hdb]
       rfl
     · refine e3 _ ?_ (fun h => absurd h.1 (by decide))
       unfold valV
       rw [if_neg (by decide)]
       rcases hm with ⟨rfl, rfl⟩ | ⟨rfl, rfl⟩ | ⟨rfl, rfl⟩
       · rw [if_neg (fun h => h.2 o0)]; rfl
       · rw [if_neg (fun h => h.2 o1)]; rfl
       · rw [if_pos ⟨rfl, by rw [o2]; simp⟩, o2]; rfl
     · rcases hm with ⟨rfl, rfl⟩ | ⟨rfl, rfl⟩ | ⟨rfl, rfl⟩
       · refine e3 _ ?_ (fun h => absurd h.2 (by decide))
         unfold valV
         rw [if_neg (by decide), if_neg (fun h => absurd h.1 (by decide))]
         rfl
       · unfold defineF
         rw [if_pos (.inr (by decide))]
         rfl
       · unfold defineF
         rw [if_pos (.inr (by decide))]
         rfl
   have hk := key (if 1 < had then [(bs [120], bs [111, 108, 100])] else if 0 < had then [(bs [120], bs [])] else []) (by
     rcases (by omega : had = 0 ∨ had = 1 ∨ had = 2) with rfl | rfl | rfl
     · exact .inl ⟨rfl, rfl⟩
     · exact .inr (.inl ⟨rfl, rfl⟩)
     · exact .inr (.inr ⟨rfl, rfl⟩))
   rw [hk]
   dsimp only
   rw [foldE_nil]
   exact hlast _ rfl rfl ⟨_, rfl⟩ (by simp [givS])
end Rd
end Go.Proofs.YtpheeheikigenaaGreatDoor
