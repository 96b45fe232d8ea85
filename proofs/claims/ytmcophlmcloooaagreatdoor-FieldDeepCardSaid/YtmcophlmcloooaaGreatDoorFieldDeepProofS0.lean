/- Walks and plain facts that the claim uses. -/
import Derived.Test.YtmcophlmcloooaaGreatDoorFD2
set_option maxRecDepth 100000
set_option maxHeartbeats 16000000
set_option linter.unusedSimpArgs false
set_option linter.unusedVariables false
namespace Go.Proofs.YtmcophlmcloooaaGreatDoor
section
open Go.RowKit Go.Deep Go.Maps Ln Pth Vf Qm.Glob
def diN (i : Nat) : T := [47, 100, UInt8.ofNat (48 + i)]
def feN (i k : Nat) : T := diN i ++ [47, 102, UInt8.ofNat (48 + k)]
def deepF (i : Nat) (S : St) : Nat → St
 | 0 => S
 | k + 1 => (writeS (deepF i S k) (feN i k) [] false).1
def deepD (b : Nat) : Nat → St
 | 0 => (writeS (newS 100 100) [47, 112, 108, 97, 105, 110] [] false).1
 | i + 1 => deepF i (mkdirS (deepD b i) (diN i)).1 b
def wantF (b a : Nat) : List ByteArray := (List.range a).flatMap fun i => (List.range b).map fun k => bs (feN i k)
def wantD (a : Nat) : List ByteArray := (List.range a).map fun i => bs (diN i ++ [47, 46, 46])
def pF : ByteArray := ⟨#[47, 100, 42, 47, 102, 42]⟩
def pD : ByteArray := ⟨#[47, 100, 42, 47, 46, 46]⟩
def orB (p : ByteArray) (L : List ByteArray) : List ByteArray := if L = [] then [p] else L
def deepOk (a b : Nat) : Bool := decide (outB (deepD b a) (⟨#[47]⟩, ⟨#[47]⟩) pF pF = orB pF (wantF b a)) && decide (outB (deepD b a) (⟨#[47]⟩, ⟨#[47]⟩) pD pD = orB pD (wantD a))
theorem deep_all : ((List.range 7).all fun a => (List.range 7).all fun b => deepOk a b) = true := by kernel_rfl
theorem deep_at {a b : Nat} (ha : a ≤ 6) (hb : b ≤ 6) : outB (deepD b a) (⟨#[47]⟩, ⟨#[47]⟩) pF pF = orB pF (wantF b a) ∧ outB (deepD b a) (⟨#[47]⟩, ⟨#[47]⟩) pD pD = orB pD (wantD a) := by
 have h := List.all_eq_true.1 (List.all_eq_true.1 deep_all a (List.mem_range.2 (by omega))) b (List.mem_range.2 (by omega))
 unfold deepOk at h
 rw [Bool.and_eq_true] at h
 exact ⟨of_decide_eq_true h.1, of_decide_eq_true h.2⟩
theorem deep_pat : plT pF = none ∧ plT pD = none ∧ startB ⟨#[47]⟩ pF = some (⟨#[47]⟩, ⟨#[47]⟩) ∧ startB ⟨#[47]⟩ pD = some (⟨#[47]⟩, ⟨#[47]⟩) := by
 refine ⟨of_decide_eq_true (by kernel_rfl), of_decide_eq_true (by kernel_rfl), rfl, rfl⟩
theorem diN_len (i : Nat) : (diN i).length = 3 := rfl
theorem feN_len (i k : Nat) : (feN i k).length = 6 := rfl
end
section
open Go.RowKit Go.Deep Go.Maps
theorem InvN.opn {A X : AsnN} {B : Nat} {w0 w : World} (h : InvN (sep A X) B w0 w) (hX : FrN X) (hB : B ≤ w0.heap.size) : ∃ T N, A T N w ∧ OkTN T N w ∧ (∀ k, T k → B ≤ k) ∧
   ∀ (A' : AsnN) (w' : World) (T' N' : Nat → Prop), A' T' N' w' → GrowN w w' T N T' N' → Kp w w' T → InvN (sep A' X) B w0 w' := by
 obtain ⟨T, N, ⟨T1, T2, a, b, s1, s2, d⟩, ok, ht, hb0⟩ := h
 refine ⟨T1, N, a, ⟨fun k hk => ok.1 k (s1 k hk), ok.2⟩, fun k hk => ht k (s1 k hk), ?_⟩
 rintro A' w' T1' N' q ⟨g1, g2, g3, g4, g5⟩ hk
 refine ⟨fun k => T1' k ∨ T2 k, N', ⟨T1', T2, q, hX _ _ _ _ _ b (fun k h2 => ?_) g2 hk.size, fun k h => .inl h, fun k h => .inr h, fun k h1 h2 => ?_⟩, ⟨fun k h1 => ?_, g5⟩, fun k h1 => ?_, hk.below hb0 hB (fun k h1 => ht k (s1 k h1))⟩
 · rcases h2 with h2 | h2
   · exact hk.block k (ok.1 k (s2 k h2)).1 (fun h1 => d k h1 h2)
   · exact hk.block k (ok.2 k h2) (fun h1 => (ok.1 k (s1 k h1)).2 h2)
 · rcases g1 k h1 with h | h
   · exact d k h h2
   · have := (ok.1 k (s2 k h2)).1; omega
 · rcases h1 with h1 | h2
   · exact g4 k h1
   · refine ⟨Nat.lt_of_lt_of_le (ok.1 k (s2 k h2)).1 hk.size, fun h => ?_⟩
     rcases g3 k h with h | h
     · exact (ok.1 k (s2 k h2)).2 h
     · have := (ok.1 k (s2 k h2)).1; omega
 · rcases h1 with h1 | h2
   · rcases g1 k h1 with h | h
     · exact ht k (s1 k h)
     · have := hb0.size; omega
   · exact ht k (s2 k h2)
def WantA (v : Value) (l : List ByteArray) : AsnN := fun T _ w => OwnS w 0 v l ∧ ∀ k, v.ownBlock = some k → T k
theorem WantA.fr (v : Value) (l : List ByteArray) : FrN (WantA v l) := by
 rintro T N N' w w' ⟨h1, h2⟩ hb _ _
 exact ⟨ownsRow_of h1 (fun k e => hb k (.inl (h2 k e))), h2⟩
theorem WantA.nil (T N : Nat → Prop) (w : World) : WantA (.slice none 0 0) [] T N w := ⟨OwnS.nil _ _, fun k e => (by simp [Value.ownBlock] at e)⟩
theorem WantA.app {v : Value} {l : List ByteArray} {T N : Nat → Prop} {w : World} (h : WantA v l T N w) (ok : OkTN T N w) (x : ByteArray) (hl : l.length ≤ 900000) :
   ∃ v' w', (Builtin.append_ #[42, 42] 42 #[v, .slice (some ⟨w.heap.size, 0, none⟩) 1 1]).run Tryz.prog (w.alloc (.cells #[.string x] 9)) = .ok v' w' ∧ ∃ T', WantA v' (l ++ [x]) T' N w' ∧ GrowN w w' T N T' N ∧ Kp w w' T := by
 obtain ⟨h1, h2⟩ := h
 obtain ⟨v4, w4, r4, o4, g4, b4⟩ := run_appS (c := 1) (OwnS.alloc h1 (.cells #[.string x] 9)) (sr_new w x) (Nat.zero_le _) (by simp; omega)
 have hsz := g4.size
 simp at hsz
 refine ⟨v4, w4, r4, fun k => T k ∨ v4.ownBlock = some k, ⟨o4, fun k e => .inr e⟩, ⟨fun k h => ?_, fun k h => h, fun k h => .inl h, ⟨fun k h => ?_, fun k h => by have := ok.2 k h; omega⟩⟩, (Kp.of_below ((Below.refl w.heap.size w).alloc (Nat.le_refl _) _) T).trans ⟨g4.os, g4.tape, g4.output, g4.size, fun k hk hn => g4.block k hk (fun e => hn (.inl (h2 k e.symm)))⟩⟩
 · rcases h with h | h
   · exact .inl h
   · rcases b4 with e | e
     · exact .inl (h2 k (e ▸ h))
     · rw [e] at h; injection h with h; exact .inr (by simp at h; omega)
 · rcases h with h | h
   · exact ⟨by have := (ok.1 k h).1; omega, (ok.1 k h).2⟩
   · refine ⟨(World.ownsRow.lt o4 k h).2, fun hN => ?_⟩
     rcases b4 with e | e
     · exact (ok.1 k (h2 k (e ▸ h))).2 hN
     · rw [e] at h; injection h with h
       have := ok.2 k hN
       simp at h
       omega
end
section
open Go.RowKit Go.Deep Go.Maps Ln Pth Vf Qm.Glob Qm.Base
theorem sep_lc {A B C : AsnN} {T N : Nat → Prop} {w : World} (h : (sep A (sep B C)) T N w) : (sep B (sep A C)) T N w := by
 obtain ⟨T1, T2, a, ⟨T3, T4, b, c, s3, s4, d2⟩, s1, s2, d⟩ := h
 exact ⟨T3, fun k => T1 k ∨ T4 k, b, ⟨T1, T4, a, c, fun k h => .inl h, fun k h => .inr h, fun k h1 h4 => d k h1 (s4 k h4)⟩, fun k h => s2 k (s3 k h), fun k h => h.elim (s1 k) (fun h => s2 k (s4 k h)), fun k h3 h => h.elim (fun h1 => d k h1 (s3 k h3)) (fun h4 => d2 k h3 h4)⟩
theorem sep_rc {A B C : AsnN} {T N : Nat → Prop} {w : World} (h : (sep A (sep B C)) T N w) : (sep A (sep C B)) T N w :=
 sep_mono (fun _ _ _ h => h) (fun _ _ _ h => sep_comm h) _ _ _ h
theorem InvN.app {v : Value} {l : List ByteArray} {X : AsnN} {B : Nat} {w0 w : World} (h : InvN (sep (WantA v l) X) B w0 w) (hX : FrN X) (hB : B ≤ w0.heap.size) (x : ByteArray) (hl : l.length ≤ 900000) :
   ∃ v' w', (Builtin.append_ #[42, 42] 42 #[v, .slice (some ⟨w.heap.size, 0, none⟩) 1 1]).run Tryz.prog (w.alloc (.cells #[.string x] 9)) = .ok v' w' ∧ InvN (sep (WantA v' (l ++ [x])) X) B w0 w' := by
 obtain ⟨T, N, a, ok, _, close⟩ := h.opn hX hB
 obtain ⟨v', w', hr, T', a', g, hk⟩ := a.app ok x hl
 exact ⟨v', w', hr, close _ _ _ _ a' g hk⟩
def DS (g : Nat) (S : St) (v7 : Value) (l7 : List ByteArray) (v8 : Value) (l8 : List ByteArray) : AsnN := sep (VS g S) (sep (WantA v7 l7) (WantA v8 l8))
theorem DS.app7 {g : Nat} {S : St} {v7 v8 : Value} {l7 l8 : List ByteArray} {B : Nat} {w0 w : World} (h : InvN (DS g S v7 l7 v8 l8) B w0 w) (hB : B ≤ w0.heap.size) (x : ByteArray) (hl : l7.length ≤ 900000) :
   ∃ v' w', (Builtin.append_ #[42, 42] 42 #[v7, .slice (some ⟨w.heap.size, 0, none⟩) 1 1]).run Tryz.prog (w.alloc (.cells #[.string x] 9)) = .ok v' w' ∧ InvN (DS g S v' (l7 ++ [x]) v8 l8) B w0 w' := by
 obtain ⟨v', w', hr, h'⟩ := (h.mono (fun _ _ _ h => sep_lc h)).app ((VS.fr g S).join (WantA.fr v8 l8)) hB x hl
 exact ⟨v', w', hr, h'.mono (fun _ _ _ h => sep_lc h)⟩
theorem DS.app8 {g : Nat} {S : St} {v7 v8 : Value} {l7 l8 : List ByteArray} {B : Nat} {w0 w : World} (h : InvN (DS g S v7 l7 v8 l8) B w0 w) (hB : B ≤ w0.heap.size) (x : ByteArray) (hl : l8.length ≤ 900000) :
   ∃ v' w', (Builtin.append_ #[42, 42] 42 #[v8, .slice (some ⟨w.heap.size, 0, none⟩) 1 1]).run Tryz.prog (w.alloc (.cells #[.string x] 9)) = .ok v' w' ∧ InvN (DS g S v7 l7 v' (l8 ++ [x])) B w0 w' := by
 obtain ⟨v', w', hr, h'⟩ := (h.mono (fun _ _ _ h => sep_lc (sep_rc h))).app ((VS.fr g S).join (WantA.fr v7 l7)) hB x hl
 exact ⟨v', w', hr, h'.mono (fun _ _ _ h => sep_rc (sep_lc h))⟩
theorem DS.write {g : Nat} {S : St} {v7 v8 : Value} {l7 l8 : List ByteArray} {B : Nat} {w0 w : World} (h : InvN (DS g S v7 l7 v8 l8) B w0 w) (hB : B ≤ w0.heap.size) (hm : MX w) (hS : WfS S) (hby : S.bytes ≤ 400000) (hck : S.clock ≤ 1000000000) (p : T) (hp : p.length ≤ 50000) :
   Calls Tryz.prog 10 #[.pointer (some ⟨g, 0, none⟩), .string (bs p), .slice none 0 0, .bool false] w fun e w' => e = .returned (.int .i64 (writeS S p [] false).2) ∧ InvN (DS g (writeS S p [] false).1 v7 l7 v8 l8) B w0 w' := by
 obtain ⟨T, N, hv, ok, _, close⟩ := h.opn ((WantA.fr v7 l7).join (WantA.fr v8 l8)) hB
 refine (write_any g S p [] false none 0 T N w hv ok hS hm hp hby (Nat.zero_le _) hck (RG.nil _ _)).mono ?_
 rintro e w' ⟨rfl, N', hv', hg, hk⟩
 exact ⟨rfl, close _ _ _ _ hv' hg hk⟩
theorem DS.mkdir {g : Nat} {S : St} {v7 v8 : Value} {l7 l8 : List ByteArray} {B : Nat} {w0 w : World} (h : InvN (DS g S v7 l7 v8 l8) B w0 w) (hB : B ≤ w0.heap.size) (hm : MX w) (hS : WfS S) (hck : S.clock ≤ 1000000000) (p : T) (hp : p.length ≤ 50000) :
   Calls Tryz.prog 17 #[.pointer (some ⟨g, 0, none⟩), .string (bs p)] w fun e w' => e = .returned (.int .i64 (mkdirS S p).2) ∧ InvN (DS g (mkdirS S p).1 v7 l7 v8 l8) B w0 w' := by
 obtain ⟨T, N, hv, ok, _, close⟩ := h.opn ((WantA.fr v7 l7).join (WantA.fr v8 l8)) hB
 refine (mkdir_any g S p T N w hv ok hS hm hp hck).mono ?_
 rintro e w' ⟨rfl, N', hv', hg, hk⟩
 exact ⟨rfl, close _ _ _ _ hv' hg hk⟩
theorem DS.vs {g : Nat} {S : St} {v7 v8 : Value} {l7 l8 : List ByteArray} {B : Nat} {w0 w : World} (h : InvN (DS g S v7 l7 v8 l8) B w0 w) : Hs (VS g S) w := h.fst.hs
theorem DS.own7 {g : Nat} {S : St} {v7 v8 : Value} {l7 l8 : List ByteArray} {B : Nat} {w0 w : World} (h : InvN (DS g S v7 l7 v8 l8) B w0 w) : OwnS w 0 v7 l7 := by
 obtain ⟨_, _, a, _⟩ := h.snd.fst
 exact a.1
theorem DS.own8 {g : Nat} {S : St} {v7 v8 : Value} {l7 l8 : List ByteArray} {B : Nat} {w0 w : World} (h : InvN (DS g S v7 l7 v8 l8) B w0 w) : OwnS w 0 v8 l8 := by
 obtain ⟨_, _, a, _⟩ := h.snd.snd
 exact a.1
theorem DS.start {b : Nat} {w0 wr : World} {S : St} (h : TA b w0 S wr) (hb : w0.heap.size ≤ b) : InvN (DS (b + 1) S (.slice none 0 0) [] (.slice none 0 0) []) w0.heap.size w0 wr := by
 obtain ⟨N, hv, ok, h0⟩ := h
 exact ⟨T0 b, N, ⟨T0 b, fun _ => False, hv, ⟨fun _ => False, fun _ => False, WantA.nil _ _ _, WantA.nil _ _ _, fun _ h => h.elim, fun _ h => h.elim, fun _ h => h.elim⟩, fun _ h => h, fun _ h => h.elim, fun _ _ h => h⟩, ok, fun k hk => by unfold T0 at hk; omega, h0⟩
structure DpOk (S : St) (n : Nat) : Prop where
 wf : WfS S
 nodes : S.nodes = 100
 bytes : S.bytes = 100
 clock : S.clock ≤ n
theorem dwr_cs (S : St) (p b : T) (more : Bool) : (writeS S p b more).1.nodes = S.nodes ∧ (writeS S p b more).1.bytes = S.bytes ∧ (writeS S p b more).1.clock ≤ S.clock + 1 := by
 unfold writeS
 split
 · exact ⟨rfl, rfl, Nat.le_succ _⟩
 · unfold writeQ
   split
   · exact ⟨rfl, rfl, Nat.le_succ _⟩
   · dsimp only
     generalize (if kindM S.m (absS S p).1 = 0 then 1 else 0) = z
     generalize (if more = true then dataM S.m (absS S p).1 else []) = was
     split
     · exact ⟨rfl, rfl, Nat.le_refl _⟩
     · exact ⟨rfl, rfl, Nat.le_succ _⟩
theorem dmk_cs (S : St) (p : T) : (mkdirS S p).1.nodes = S.nodes ∧ (mkdirS S p).1.bytes = S.bytes ∧ (mkdirS S p).1.clock ≤ S.clock + 1 := by
 unfold mkdirS
 split
 · exact ⟨rfl, rfl, Nat.le_succ _⟩
 · split
   · exact ⟨rfl, rfl, Nat.le_succ _⟩
   · split
     · exact ⟨rfl, rfl, Nat.le_refl _⟩
     · exact ⟨rfl, rfl, Nat.le_succ _⟩
theorem DpOk.wr {S : St} {n : Nat} (h : DpOk S n) (p b : T) (more : Bool) : DpOk (writeS S p b more).1 (n + 1) := by
 obtain ⟨h1, h2, h3⟩ := dwr_cs S p b more
 exact ⟨writeS_wf h.wf _ _ _, h1.trans h.nodes, h2.trans h.bytes, by have := h.clock; omega⟩
theorem DpOk.mk' {S : St} {n : Nat} (h : DpOk S n) (p : T) : DpOk (mkdirS S p).1 (n + 1) := by
 obtain ⟨h1, h2, h3⟩ := dmk_cs S p
 exact ⟨mkdirS_wf h.wf _, h1.trans h.nodes, h2.trans h.bytes, by have := h.clock; omega⟩
theorem deepF_ok {S : St} {n : Nat} (h : DpOk S n) (i : Nat) : ∀ k, DpOk (deepF i S k) (n + k)
 | 0 => h
 | k + 1 => (deepF_ok h i k).wr _ _ _
theorem deepD_ok (b : Nat) : ∀ i, DpOk (deepD b i) (i * (b + 1) + 1)
 | 0 => by
   have h0 : DpOk (newS 100 100) 0 := ⟨newS_wf 100 100, rfl, rfl, Nat.le_refl _⟩
   have h1 := h0.wr [47, 112, 108, 97, 105, 110] [] false
   refine ⟨h1.wf, h1.nodes, h1.bytes, Nat.le_trans h1.clock ?_⟩
   omega
 | i + 1 => by
   have := deepF_ok ((deepD_ok b i).mk' (diN i)) i b
   refine ⟨this.wf, this.nodes, this.bytes, Nat.le_trans this.clock ?_⟩
   rw [Nat.add_mul]
   omega
theorem dig_one {i : Nat} (h : i < 10) : ds (dgL i) = bs [UInt8.ofNat (48 + i)] := by
 rw [dgL_small h]
 match i, h with
 | 0, _ => rfl
 | 1, _ => rfl
 | 2, _ => rfl
 | 3, _ => rfl
 | 4, _ => rfl
 | 5, _ => rfl
 | 6, _ => rfl
 | 7, _ => rfl
 | 8, _ => rfl
 | 9, _ => rfl
end
section
open Go.RowKit Go.Deep Go.Maps Ln Pth Vf Qm.Glob Qm.Base
attribute [local go_sem] bt_eq
theorem wantF_succ (b i : Nat) : wantF b (i + 1) = wantF b i ++ (List.range b).map fun k => bs (feN i k) := by
 unfold wantF
 rw [List.range_succ, List.flatMap_append]
 simp
theorem wantD_succ (i : Nat) : wantD (i + 1) = wantD i ++ [bs (diN i ++ [47, 46, 46])] := by
 unfold wantD
 rw [List.range_succ, List.map_append]
 rfl
theorem wantF_len (b i : Nat) : (wantF b i).length = i * b := by
 induction i with
 | zero => simp [wantF]
 | succ i ih => rw [wantF_succ, List.length_append, ih, List.length_map, List.length_range, Nat.add_mul, Nat.one_mul]
theorem wantD_len (i : Nat) : (wantD i).length = i := by simp [wantD]
theorem deep_paths {gF i nb : Nat} (hi : i ≤ 6) (hnb : nb ≤ 6) (w W : World) (hv : Hs (VS gF (deepD nb i)) w) (hm : MX w) (hb : Below w.heap.size w W) (p : ByteArray) (hp : p.size ≤ 100) (hpl : plT p = none) (hst : startB ⟨#[47]⟩ p = some (⟨#[47]⟩, ⟨#[47]⟩)) (O : List ByteArray) (hO : outB (deepD nb i) (⟨#[47]⟩, ⟨#[47]⟩) p p = O) :
   Calls Tryz.prog 21 #[.pointer (some ⟨gF, 0, none⟩), .string ⟨#[47]⟩, .slice (some ⟨W.heap.size, 0, none⟩) 1 1] (W.alloc (.cells #[.int .i64 1, .string p, .string ⟨#[]⟩, .string ⟨#[]⟩, .slice none 0 0, .bool false] tyP)) fun e w' => ∃ A c, e = .returned (.slice A O.length c) ∧ SR w' A O ∧ Below W.heap.size W w' := by
 have hrow : RG encPt 6 (W.alloc (.cells #[.int .i64 1, .string p, .string ⟨#[]⟩, .string ⟨#[]⟩, .slice none 0 0, .bool false] tyP)) (some ⟨W.heap.size, 0, none⟩) [ptK 1 p] := rg_new (enc := encPt) W (ptK 1 p) tyP
 have hba := hb.alloc hb.size (.cells #[.int .i64 1, .string p, .string ⟨#[]⟩, .string ⟨#[]⟩, .slice none 0 0, .bool false] tyP)
 have hpat : bsF (patS [ptK 1 p]) = p := by rw [pat_one]; rfl
 have htx : textS [ptK 1 p] = p.data.toList := by simp [textS, ptK]
 have htx2 : bsF (textS [ptK 1 p]) = p := by
   rw [htx]
   exact bs_of p
 have hok := deepD_ok nb i
 have := paths_some gF (deepD nb i) ⟨#[47]⟩ (some ⟨W.heap.size, 0, none⟩) 1 [ptK 1 p] _ (fsOk_of hok.wf (by have := hok.nodes; omega)) (hv.below (VS.fr _ _) hba) (hm.below hba) (by decide) hrow (by simp) (by intro q hq; rw [List.mem_singleton.1 hq]; show p.size ≤ 1000; omega) (by rw [htx, data_len]; omega) (by rw [hpat]; omega) (by rw [hpat]; exact hpl) (⟨#[47]⟩, ⟨#[47]⟩) (by rw [hpat]; exact hst)
 rw [hpat, htx2, hO] at this
 refine this.mono ?_
 rintro e w' ⟨⟨v, rfl, ho⟩, hb'⟩
 obtain ⟨A, c, rfl, _, hs, _⟩ := ho.slice
 have hb0 : Below W.heap.size W (W.alloc (.cells #[.int .i64 1, .string p, .string ⟨#[]⟩, .string ⟨#[]⟩, .slice none 0 0, .bool false] tyP)) := (Below.refl _ _).alloc (Nat.le_refl _) _
 exact ⟨A, c, rfl, hs, hb0.trans (hb'.mono hb0.size)⟩
theorem law_fieldDeep (K : Nat) (hK : K ≤ 140737488355328) (a b : Int) (ha : (Lit.int .i64 a).wf = true) (hb : (Lit.int .i64 b).wf = true) (w : World) (hm : MX w) :
   Calls Tryz.prog 5 #[.int .i64 a, .int .i64 b] w fun e w' => e = .returned (.bool true) ∧ Below w.heap.size w w' := by
 have HM := hide hm
 clear hm ha hb hK
 go_enter Tryz.func5, Tryz.ntmps5
 go_wp2_with fail
 refine (alive12_any _).mono ?_
 rintro e w1 ⟨rfl, hb1⟩
 have HB1 := hide hb1
 clear hb1
 by_cases h1 : a < 0
 · have d1 : decide (a < 0) = true := decide_eq_true h1
   go_wp2
   go_ret
   exact ⟨rfl, HB1.out⟩
 by_cases h2 : 6 < a
 · have d1 : decide (a < 0) = false := decide_eq_false h1
   have d2 : decide (6 < a) = true := decide_eq_true h2
   go_wp2
   go_ret
   exact ⟨rfl, HB1.out⟩
 by_cases h3 : b < 0
 · have d1 : decide (a < 0) = false := decide_eq_false h1
   have d2 : decide (6 < a) = false := decide_eq_false h2
   have d3 : decide (b < 0) = true := decide_eq_true h3
   go_wp2
   go_ret
   exact ⟨rfl, HB1.out⟩
 by_cases h4 : 6 < b
 · have d1 : decide (a < 0) = false := decide_eq_false h1
   have d2 : decide (6 < a) = false := decide_eq_false h2
   have d3 : decide (b < 0) = false := decide_eq_false h3
   have d4 : decide (6 < b) = true := decide_eq_true h4
   go_wp2
   go_ret
   exact ⟨rfl, HB1.out⟩
 obtain ⟨na, rfl⟩ : ∃ n : Nat, a = n := ⟨a.toNat, by omega⟩
 obtain ⟨nb, rfl⟩ : ∃ n : Nat, b = n := ⟨b.toNat, by omega⟩
 have d1 : decide ((na : Int) < 0) = false := decide_eq_false h1
 have d2 : decide (6 < (na : Int)) = false := decide_eq_false h2
 have d3 : decide ((nb : Int) < 0) = false := decide_eq_false h3
 have d4 : decide (6 < (nb : Int)) = false := decide_eq_false h4
 have hna : na ≤ 6 := by omega
 have hnb : nb ≤ 6 := by omega
 have HNW := hide (vnew_any 100 100 w1 (by decide) (by decide) (by decide) (by decide))
 go_wp2_with fail
 refine HNW.out.mono ?_
 clear HNW
 rintro e w2 ⟨rfl, hb2, hv2, hz2⟩
 have hta := TA.new (w0 := w) HB1.out 100 100 hb2 hv2 hz2
 have hds := DS.start hta HB1.out.size
 have HWR := hide (DS.write hds (Nat.le_refl _) (HM.out.below hds.below) (newS_wf 100 100) (by decide) (by decide) [47, 112, 108, 97, 105, 110] (by decide))
 obtain ⟨gF, hgF⟩ : ∃ z, w1.heap.size + 1 = z := ⟨_, rfl⟩
 have HGF := hide hgF
 rw [hgF] at HWR
 clear hb2 hv2 hz2 hta hds hgF d1 d2 d3 d4 h1 h2 h3 h4
 go_wp2_with fail
 rw [HGF.out]
 refine HWR.out.mono ?_
 rintro e w3 ⟨rfl, hi3⟩
 have HI3 := hide (show InvN (DS gF (deepD nb 0) (.slice none 0 0) (wantF nb 0) (.slice none 0 0) (wantD 0)) w.heap.size w w3 from hi3)
 clear hi3 HWR
 go_wp2_with fail
 go_loopw [7, 8, 9, 10, 11, 12] (fun v7 v8 v9 _ _ _ wr => ∃ i : Nat, v9 = .int .i64 i ∧ i ≤ na ∧ Hid (InvN (DS gF (deepD nb i) v7 (wantF nb i) v8 (wantD i)) w.heap.size w wr)) (fun _ _ v9 _ _ _ _ => na - (intOf v9).toNat)
 case atStart => exact ⟨0, rfl, by omega, HI3⟩
 case round =>
   obtain ⟨ws, hws⟩ : ∃ Z, Z = wr := ⟨_, rfl⟩
   subst hws
   obtain ⟨i, rfl, hi, HI⟩ := hrel
   by_cases hlt : i < na
   case neg =>
     obtain rfl : i = na := by omega
     obtain ⟨A7, c7, rfl, _, _, _⟩ := (DS.own7 HI.out).slice
     obtain ⟨A8, c8, rfl, _, _, _⟩ := (DS.own8 HI.out).slice
     have hwl := wantF_len nb i
     have hwd := wantD_len i
     rw [hwl, hwd] at HI ⊢
     obtain ⟨m, hmm⟩ : ∃ z, i * nb = z := ⟨_, rfl⟩
     rw [hmm] at hwl HI ⊢
     have hm36 : m ≤ 36 := by rw [← hmm]; exact Nat.mul_le_mul hna hnb
     have hs7 := (DS.own7 HI.out).slice
     have HV := hide (DS.vs HI.out)
     have HMS := hide (HM.out.below HI.out.below)
     have HBS := hide HI.out.below
     obtain ⟨hd1, hd2⟩ := deep_at hna hnb
     have HO1 := hide hd1
     have HO2 := hide hd2
     have hF0 : m = 0 → orB pF (wantF nb i) = [pF] := fun e => by
       unfold orB
       rw [if_pos (List.eq_nil_of_length_eq_zero (by omega))]
     have hF1 : m ≠ 0 → orB pF (wantF nb i) = wantF nb i := fun e => by
       unfold orB
       rw [if_neg (fun h => e (by rw [← hwl, h]; rfl))]
     have hD0 : i = 0 → orB pD (wantD i) = [pD] := fun e => by
       unfold orB
       rw [if_pos (List.eq_nil_of_length_eq_zero (by omega))]
     have hD1 : i ≠ 0 → orB pD (wantD i) = wantD i := fun e => by
       unfold orB
       rw [if_neg (fun h => e (by rw [← hwd, h]; rfl))]
     obtain ⟨OF, hOF⟩ : ∃ z, orB pF (wantF nb i) = z := ⟨_, rfl⟩
     obtain ⟨OD, hOD⟩ : ∃ z, orB pD (wantD i) = z := ⟨_, rfl⟩
     have HS7 := hide (show m ≠ 0 → SR ws A7 OF ∧ OF.length = m from fun e => by rw [← hOF, hF1 e]; exact ⟨by assumption, hwl⟩)
     have HS8 := hide (show i ≠ 0 → SR ws A8 OD ∧ OD.length = i from fun e => by rw [← hOD, hD1 e]; exact ⟨by assumption, hwd⟩)
     rw [hOF] at HO1 hF0
     rw [hOD] at HO2 hD0
     have HF0 := hide hF0
     have HD0 := hide hD0
     have HIN := hide hi
     clear hs7 hd1 hd2 hF0 hF1 hD0 hD1 hOF hOD hwl hwd hmm HI HI3 hi
     go_upto_if 73 with (fail)
     go_cut [7] from 73 to 74 (fun v7 wx => ∃ A c, v7 = .slice A OF.length c ∧ SR wx A OF ∧ Below ws.heap.size ws wx)
     case first =>
       clear HO1 HO2 HV HMS HBS HS8 HD0 HIN HM HB1 HGF
       by_cases hm0 : m = 0
       · subst hm0
         have HE := hide (HF0.out rfl)
         go_wp2
         go_meet
         rw [HE.out]
         exact ⟨_, _, rfl, sr_new ws pF, (Below.refl _ _).alloc (Nat.le_refl _) _⟩
       · have hmi : ¬ (m : Int) = 0 := by omega
         obtain ⟨he1, he2⟩ := HS7.out hm0
         have HE := hide he2
         have HE1 := hide he1
         clear he1 he2
         go_wp2
         go_meet
         rw [HE.out]
         exact ⟨_, _, rfl, HE1.out, Below.refl _ _⟩
     case rest =>
       obtain ⟨A9, c9, rfl, hs9, hb9⟩ := hcut
       have HS9 := hide hs9
       have HB9 := hide hb9
       obtain ⟨wa, hwa⟩ : ∃ z, z = wc := ⟨_, rfl⟩
       subst hwa
       clear hs9 hb9
       go_upto_if 77 with (fail)
       go_cut [8] from 77 to 78 (fun v8 wx => ∃ A c, v8 = .slice A OD.length c ∧ SR wx A OD ∧ Below wa.heap.size wa wx)
       case first =>
         clear HO1 HO2 HV HMS HBS HS7 HF0 HM HB1 HGF HS9
         by_cases hm0 : i = 0
         · have HE := hide (HD0.out hm0)
           have hmi : (i : Int) = 0 := by omega
           go_wp2
           go_meet
           rw [HE.out]
           exact ⟨_, _, rfl, sr_new wa pD, (Below.refl _ _).alloc (Nat.le_refl _) _⟩
         · have hmi : ¬ (i : Int) = 0 := by omega
           obtain ⟨he1, he2⟩ := HS8.out hm0
           have HE := hide he2
           have HE1 := hide (he1.below HB9.out)
           clear he1 he2
           go_wp2
           go_meet
           rw [HE.out]
           exact ⟨_, _, rfl, HE1.out, Below.refl _ _⟩
       case rest =>
         obtain ⟨A10, c10, rfl, hs10, hb10⟩ := hcut
         have hbc : Below ws.heap.size ws wc := HB9.out.trans (hb10.mono HB9.out.size)
         have hs9 := HS9.out.below hb10
         have HP1 := hide (deep_paths hna hnb ws wc HV.out HMS.out hbc pF (by decide) deep_pat.1 deep_pat.2.2.1 OF HO1.out)
         have HP2 := hide (fun W hb => deep_paths hna hnb ws W HV.out HMS.out hb pD (by decide) deep_pat.2.1 deep_pat.2.2.2 OD HO2.out)
         have HS10 := hide hs10
         have HSN := hide hs9
         have HBC := hide hbc
         have hl1 : OF.length ≤ 100000 := by
           by_cases hm0 : m = 0
           · rw [HF0.out hm0]; simp
           · rw [(HS7.out hm0).2]; omega
         have hl2 : OD.length ≤ 100000 := by
           by_cases hm0 : i = 0
           · rw [HD0.out hm0]; simp
           · rw [(HS8.out hm0).2]; omega
         have HL1 := hide hl1
         have HL2 := hide hl2
         clear hs9 hs10 hb10 hbc hl1 hl2 HO1 HO2 HS7 HS8 HF0 HD0 HS9 HB9 HIN
         go_wp2_with fail
         refine HP1.out.mono ?_
         rintro e w11 ⟨A11, c11, rfl, hs11, hb11⟩
         have HB11 := hide (HBC.out.trans (hb11.mono HBC.out.size))
         have HPD := hide (HP2.out w11 HB11.out)
         have HS11 := hide hs11
         have HS10' := hide (HS10.out.below hb11)
         have HSN' := hide (HSN.out.below hb11)
         clear hs11 hb11 HP1 HP2 HS10 HSN HBC HV HMS
         go_wp2_with fail
         refine HPD.out.mono ?_
         rintro e w12 ⟨A12, c12, rfl, hs12, hb12⟩
         have HB12 := hide (HB11.out.trans (hb12.mono HB11.out.size))
         have HSA := hide (same_any A11 A9 c11 c9 OF OF w12 (HS11.out.below hb12) (HSN'.out.below hb12) HL1.out)
         have HSB := hide (fun Z (hb : Below w12.heap.size w12 Z) => same_any A12 A10 c12 c10 OD OD Z (hs12.below hb) ((HS10'.out.below hb12).below hb) HL2.out)
         rw [decide_eq_true (rfl : OF = OF)] at HSA
         rw [decide_eq_true (rfl : OD = OD)] at HSB
         clear hs12 hb12 HPD HS11 HS10' HSN' HB11
         go_wp2_with fail
         refine HSA.out.mono ?_
         rintro e w13 ⟨rfl, hd13⟩
         have HB13 := hide hd13.below
         clear hd13
         go_wp2_with fail
         refine (HSB.out _ HB13.out).mono ?_
         rintro e w14 ⟨rfl, hd14⟩
         have HB14 := hide (HB12.out.trans ((HB13.out.trans (hd14.below.mono HB13.out.size)).mono HB12.out.size))
         have HEND := hide (HBS.out.trans (HB14.out.mono HBS.out.size))
         clear hd14
         go_wp2
         go_ret
         exact ⟨by simp, HEND.out⟩
   have b1 : (i : Int) < (na : Int) := by omega
   have hdk := deepD_ok nb i
   have hck : (deepD nb i).clock ≤ 1000 := Nat.le_trans hdk.clock (by
     have := Nat.mul_le_mul (show i ≤ 6 by omega) (show nb + 1 ≤ 7 by omega)
     omega)
   have HDK := hide hdk
   have HCK := hide hck
   have HDG := hide (fun W => digits_any i W (by omega))
   have hdg := dig_one (show i < 10 by omega)
   obtain ⟨dg, hdg2⟩ : ∃ z, ds (dgL i) = z := ⟨_, rfl⟩
   rw [hdg2] at HDG hdg
   have hdz : dg.size = 1 := by rw [hdg]; rfl
   have hdd : (⟨#[47, 100]⟩ : ByteArray) ++ dg = bs (diN i) := by
     rw [hdg]
     apply ByteArray.ext
     simp [bs, diN, ByteArray.data_append]
   have hc1 : ¬ 9223372036854775807 < (2 : Nat) + dg.size := by omega
   have HMK := hide (DS.mkdir HI.out (Nat.le_refl _) (HM.out.below HI.out.below) hdk.wf (by omega) (diN i) (by rw [diN_len]; omega))
   have hmo := hdk.mk' (diN i)
   obtain ⟨SM, hSM⟩ : ∃ z, (mkdirS (deepD nb i) (diN i)).1 = z := ⟨_, rfl⟩
   rw [hSM] at HMK hmo
   have HMO := hide hmo
   have HNX := hide (show deepD nb (i + 1) = deepF i SM nb by rw [← hSM]; rfl)
   obtain ⟨dt, hdt⟩ : ∃ z, bs (diN i) = z := ⟨_, rfl⟩
   rw [hdt] at HMK hdd
   have hdtz : dt.size = 3 := by rw [← hdt, bs_size]; rfl
   have hx8 : dt ++ ⟨#[47, 46, 46]⟩ = bs (diN i ++ [47, 46, 46]) := by
     rw [← hdt]
     apply ByteArray.ext
     simp [bs, ByteArray.data_append]
   have HDT := hide hdt
   have HDD := hide hdd
   have HX8 := hide hx8
   have HDTZ := hide hdtz
   clear hdk hck hdg hdg2 hdd hmo hSM hdt hx8
   go_wp2_with fail
   refine (HDG.out _).mono ?_
   rintro e w4 ⟨rfl, rfl⟩
   go_wp2_with fail
   rw [HDD.out]
   refine HMK.out.mono ?_
   rintro e w5 ⟨rfl, hi5⟩
   obtain ⟨A8, c8, rfl, _, _, _⟩ := (DS.own8 hi5).slice
   rw [wantD_len] at hi5 ⊢
   obtain ⟨v8, w6, hrn, hi6⟩ := DS.app8 hi5 (Nat.le_refl _) (dt ++ ⟨#[47, 46, 46]⟩) (by rw [wantD_len]; omega)
   have HRN := hide hrn
   have HI6 := hide (show InvN (DS gF (deepF i SM 0) u7 (wantF nb i ++ (List.range 0).map fun k => bs (feN i k)) v8 (wantD (i + 1))) w.heap.size w w6 by
     rw [wantD_succ, ← HX8.out, show deepF i SM 0 = SM from rfl]
     simpa using hi6)
   have hc2 : ¬ 9223372036854775807 < dt.size + (3 : Nat) := by omega
   clear hi5 hrn hi6 HI HMK HDG hc1 hdz
   go_wp2_with (at_builtin; refine wpList_app_run ?_ (.tmp 49) (.tmp 52) ?_ ?_ ?_ ?_ HRN.out ?_; exact rfl; exact rfl; exact rfl; exact rfl; exact rfl)
   go_loopw [7, 11, 12] (fun v7 v11 _ wr => ∃ k : Nat, v11 = .int .i64 k ∧ k ≤ nb ∧ Hid (InvN (DS gF (deepF i SM k) v7 (wantF nb i ++ (List.range k).map fun k => bs (feN i k)) v8 (wantD (i + 1))) w.heap.size w wr)) (fun _ v11 _ _ => nb - (intOf v11).toNat)
   case atStart => exact ⟨0, rfl, by omega, HI6⟩
   case round =>
     obtain ⟨wk, hwk⟩ : ∃ Z, Z = wr := ⟨_, rfl⟩
     subst hwk
     obtain ⟨k, rfl, hk, HK⟩ := hrel
     by_cases hkl : k < nb
     case neg =>
       obtain rfl : k = nb := by omega
       have HIN := hide (show InvN (DS gF (deepD k (i + 1)) _ (wantF k (i + 1)) v8 (wantD (i + 1))) w.heap.size w wk by
         rw [HNX.out, wantF_succ]
         exact HK.out)
       go_wp2
       go_roundw
       case rel => exact ⟨i + 1, by go_num, by omega, HIN⟩
       case measure => simp [intOf]; omega
     have b2 : (k : Int) < (nb : Int) := by omega
     have hok := deepF_ok HMO.out i k
     have hck2 : (deepF i SM k).clock ≤ 2000 := Nat.le_trans hok.clock (by
       have := Nat.mul_le_mul (show i ≤ 6 by omega) (show nb + 1 ≤ 7 by omega)
       omega)
     have HDG := hide (fun W => digits_any k W (by omega))
     have hdg := dig_one (show k < 10 by omega)
     obtain ⟨dk, hdk2⟩ : ∃ z, ds (dgL k) = z := ⟨_, rfl⟩
     rw [hdk2] at HDG hdg
     have hdz : dk.size = 1 := by rw [hdg]; rfl
     have hpp : dt ++ ⟨#[47, 102]⟩ ++ dk = bs (feN i k) := by
       rw [hdg, ← HDT.out]
       apply ByteArray.ext
       simp [bs, feN, ByteArray.data_append]
     have hc3 : ¬ 9223372036854775807 < dt.size + (2 : Nat) := by omega
     have hc4 : ¬ 9223372036854775807 < (dt ++ (⟨#[47, 102]⟩ : ByteArray)).size + dk.size := by
       rw [ByteArray.size_append]
       have : (⟨#[47, 102]⟩ : ByteArray).size = 2 := rfl
       omega
     have HWR := hide (DS.write HK.out (Nat.le_refl _) (HM.out.below HK.out.below) hok.wf (by have := hok.bytes; omega) (by omega) (feN i k) (by rw [feN_len]; omega))
     obtain ⟨px, hpx⟩ : ∃ z, bs (feN i k) = z := ⟨_, rfl⟩
     rw [hpx] at HWR hpp
     have HPX := hide hpx
     have HPP := hide hpp
     clear hok hdg hdk2 hpp hpx
     go_wp2_with fail
     refine (HDG.out _).mono ?_
     rintro e w7 ⟨rfl, rfl⟩
     go_wp2_with fail
     rw [HPP.out]
     refine HWR.out.mono ?_
     rintro e w8 ⟨rfl, hi8⟩
     obtain ⟨A7, c7, rfl, _, _, _⟩ := (DS.own7 hi8).slice
     have hl7 : (wantF nb i ++ (List.range k).map fun k => bs (feN i k)).length = i * nb + k := by rw [List.length_append, wantF_len, List.length_map, List.length_range]
     have hl7b : i * nb ≤ 36 := Nat.mul_le_mul (show i ≤ 6 by omega) hnb
     obtain ⟨n7, hn7⟩ : ∃ z, i * nb + k = z := ⟨_, rfl⟩
     rw [hn7] at hl7
     rw [hl7] at hi8 ⊢
     obtain ⟨v7, w9, hrn, hi9⟩ := DS.app7 hi8 (Nat.le_refl _) px (by omega)
     have HRN2 := hide hrn
     have HI9 := hide (show InvN (DS gF (deepF i SM (k + 1)) v7 (wantF nb i ++ (List.range (k + 1)).map fun k => bs (feN i k)) v8 (wantD (i + 1))) w.heap.size w w9 by
       rw [List.range_succ, List.map_append, ← List.append_assoc]
       show InvN (DS gF (writeS (deepF i SM k) (feN i k) [] false).1 v7 ((wantF nb i ++ (List.range k).map fun k => bs (feN i k)) ++ [bs (feN i k)]) v8 (wantD (i + 1))) w.heap.size w w9
       rw [HPX.out]
       exact hi9)
     clear hi8 hrn hi9 hl7 hl7b hn7 HK HWR HDG hc3 hc4 hdz hck2
     go_wp2_with (at_builtin; refine wpList_app_run ?_ (.tmp 67) (.tmp 69) ?_ ?_ ?_ ?_ HRN2.out ?_; exact rfl; exact rfl; exact rfl; exact rfl; exact rfl)
     go_roundw
     case rel => exact ⟨k + 1, by go_num, by omega, HI9⟩
     case measure => simp [intOf]; omega
end
end Go.Proofs.YtmcophlmcloooaaGreatDoor
