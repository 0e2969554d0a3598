/- What a module shows. No condition. -/
import Derived.Test.YtdnlhicbjhgjiaaGreatDoorZG
namespace Go.Proofs.YtdnlhicbjhgjiaaGreatDoor
open Go Go.Vx
set_option maxRecDepth 100000

variable {S : BS} {K : Value → Heap → Prop} {X : List PanicEntry → Heap → Prop} {h : Heap}

theorem own_widen {α : Type} {E : Enc α} {S T : BS} {h : Heap} {v : Value} {xs : List α} (ho : Own E S h v xs) (hT : ∀ b, S b → T b) (hv : ∀ b, blkOf v = some b → ¬ T b) : Own E T h v xs := by
  rcases ho with ho | ⟨b, c, css, zs, rfl, hb, hle, hc, h1, hz⟩
  · exact .inl ho
  · exact .inr ⟨b, c, css, zs, rfl, hv b rfl, hle, hc, h1.mono hT, hz⟩

theorem of_loop2 {N0 b2 b4 n c : Nat} {a : Option Addr} {r35 r36 r37 r38 : Value} {ps : List Proc} {vs : List Var} {h8 : Heap} {v1 : Value} {pcs : List Value} {b0 : Nat} (hnp : n = ps.length)
    (hps : Sl eProc (fun b => b < h8.size ∧ b ≠ b4) h8 (.slice a n c) ps) (hb2 : Blk h8 b2 pcs) (hpl : pcs.length = 2) (h24 : b2 ≠ b4) (hN4 : N0 ≤ b4)
    (hf : RSt eVar (fun _ => False) h8 b4 [] v1 [.slice none 0 0] vs) (hv1 : ∀ b, blkOf v1 = some b → N0 ≤ b ∧ b ≠ b2) (hvn : NoTwins Var.name vs) (hpn : NoTwins Sig.name (ps.map sigOf))
    (hl1 : vs.length ≤ 10000) (hl2 : ps.length ≤ 10000) (hl3 : ∀ q ∈ ps, q.params.length ≤ 10000 ∧ q.uses.length ≤ 100000000)
    (hK : ∀ u1 u2 h', Ext (fun b => b < h8.size ∧ b ≠ b4 ∧ b ≠ b2 ∧ blkOf v1 ≠ some b) h8 h' → Sl eVar (fun b => N0 ≤ b ∧ b < h'.size) h' u1 (sortN Var.name vs) → Sl eSig (fun b => N0 ≤ b ∧ b < h'.size) h' u2 (sortN Sig.name (ps.map sigOf)) → K (.tuple #[.agg #[u1, u2], .slice none 0 0]) h') :
    VSem Tryz.prog fc13 (cd Tryz.f13 39) [(2, .pointer (some ⟨b0, 0, none⟩)), (4, .pointer (some ⟨b2, 0, none⟩)), (5, .slice none 0 0), (7, .pointer (some ⟨b4, 0, none⟩)), (35, r35), (36, r36), (37, r37), (38, r38), (53, .slice a n c), (54, .int .i64 n), (55, .int .i64 0)] h8
      (vcBlock 2 (vcThen (fun r h => vcCode Tryz.prog fc13 (cd Tryz.f13 52) r h (vcPost Tryz.prog (Array.toList (Func.results Tryz.f13)) K X)) (vcPost Tryz.prog (Array.toList (Func.results Tryz.f13)) K X))) := by
  subst hnp
  obtain ⟨va, vc, rfl⟩ := hf.form
  have h4lt := hf.blk.lt
  have h2lt := hb2.lt
  refine loop_sem mixed (α := Nat) (fun i => [(4, .pointer (some ⟨b2, 0, none⟩)), (5, .slice none 0 0), (7, .pointer (some ⟨b4, 0, none⟩)), (53, .slice a ps.length c), (54, .int .i64 ps.length), (55, .int .i64 i)])
    (fun i h' => i ≤ ps.length ∧ Ext (fun b => b < h8.size ∧ b ≠ b4) h8 h' ∧ ∃ (S' : BS) (v2 : Value), (∀ b, S' b → h8.size ≤ b ∧ b < h'.size) ∧ RSt eSig S' h' b4 [.slice va vs.length vc] v2 [] ((ps.take i).map sigOf) ∧ (∀ b, blkOf v2 = some b → h8.size ≤ b))
    (fun i _ => ps.length - i) 0 (by kernel_rfl) ⟨rfl, rfl, rfl, rfl, rfl, rfl, trivial⟩ ⟨Nat.zero_le _, Ext.rfl, (fun _ => False), .slice none 0 0, (fun _ h => h.elim), ⟨hf.blk, Own.nil, (fun h => h), (fun h => by cases h)⟩, (fun b hb => by cases hb)⟩ ?_
  rintro i h' ⟨hi, he, S', v2, hS', f2, hv2⟩
  refine Wrap.mk ?_; refine kmp (B := iteB (decide ((↑i : Int) < (↑(List.length ps) : Int))) (∃ (b : Nat), ∃ (o : Nat), ∃ (j : Nat), a = some (Addr.mk b o none) ∧ (↑i : Int) = (↑j : Int) ∧ j < List.length ps ∧ ∃ (x : ByteArray), cellAt h' b (o + j * 8) = some (Value.string x) ∧ ∃ (a_1 : Option Addr), ∃ (n : Nat), ∃ (c_1 : Nat), cellAt h' b (o + j * 8 + 1) = some (Value.slice a_1 n c_1) ∧ ∃ (x_1 : Bool), cellAt h' b (o + j * 8 + 1 + 1) = some (Value.bool x_1) ∧ ∃ (x_2 : ByteArray), cellAt h' b (o + j * 8 + 1 + 1 + 1) = some (Value.string x_2) ∧ ∃ (x_3 : ByteArray), cellAt h' b (o + j * 8 + 1 + 1 + 1 + 1) = some (Value.string x_3) ∧ ∃ (a_2 : Option Addr), ∃ (n_1 : Nat), ∃ (c_2 : Nat), cellAt h' b (o + j * 8 + 1 + 1 + 1 + 1 + 1) = some (Value.slice a_2 n_1 c_2) ∧ ∃ (a_3 : Option Addr), ∃ (n_2 : Nat), ∃ (c_3 : Nat), cellAt h' b (o + j * 8 + 1 + 1 + 1 + 1 + 1 + 1) = some (Value.slice a_3 n_2 c_3) ∧ ∃ (x_4 : Int), cellAt h' b (o + j * 8 + 1 + 1 + 1 + 1 + 1 + 1 + 1) = some (Value.int IntKind.i64 x_4) ∧ ∀ (b : Nat) (h'_1 : Array Obj), b = Array.size h' → h'_1 = Array.push h' (Obj.cells #[Value.string (ByteArray.mk #[]), Value.slice none 0 0, Value.bool false, Value.string (ByteArray.mk #[]), Value.string (ByteArray.mk #[]), Value.slice none 0 0, Value.slice none 0 0, Value.int IntKind.i64 0] 52) → Writable h'_1 b 0 8 ∧ ∀ (h' : Heap), h' = setCells h'_1 b 0 [Value.string x, Value.slice a_1 n c_1, Value.bool x_1, Value.string x_2, Value.string x_3, Value.slice a_2 n_1 c_2, Value.slice a_3 n_2 c_3, Value.int IntKind.i64 x_4] → ∃ (a_7 : Option Addr), ∃ (n : Nat), ∃ (c_4 : Nat), cellAt h' b4 1 = some (Value.slice a_7 n c_4) ∧ ∃ (x : ByteArray), cellAt h' b 0 = some (Value.string x) ∧ ∃ (a_8 : Option Addr), ∃ (n_3 : Nat), ∃ (c_5 : Nat), cellAt h' b 1 = some (Value.slice a_8 n_3 c_5) ∧ ∃ (x_5 : Bool), cellAt h' b 2 = some (Value.bool x_5) ∧ ∃ (x_6 : ByteArray), cellAt h' b 3 = some (Value.string x_6) ∧ ∃ (x_7 : ByteArray), cellAt h' b 4 = some (Value.string x_7) ∧ ∃ (a_9 : Option Addr), ∃ (n_4 : Nat), ∃ (c_6 : Nat), cellAt h' b 5 = some (Value.slice a_9 n_4 c_6) ∧ ∃ (a_10 : Option Addr), ∃ (n_5 : Nat), ∃ (c_7 : Nat), cellAt h' b 6 = some (Value.slice a_10 n_5 c_7) ∧ ∃ (x_8 : Int), cellAt h' b 7 = some (Value.int IntKind.i64 x_8) ∧ CallK Tryz.prog 31 [Value.agg #[Value.string x, Value.slice a_8 n_3 c_5, Value.bool x_5, Value.string x_6, Value.string x_7, Value.slice a_9 n_4 c_6, Value.slice a_10 n_5 c_7, Value.int IntKind.i64 x_8]] h' (fun (v : Value) (h : Heap) => ∃ (x : ByteArray), ∃ (a_11 : Option Addr), ∃ (n_6 : Nat), ∃ (c_8 : Nat), ∃ (x_9 : Bool), ∃ (x_10 : ByteArray), ∃ (x_11 : ByteArray), ∃ (a_12 : Option Addr), ∃ (n_7 : Nat), ∃ (c_9 : Nat), v = Value.agg #[Value.string x, Value.slice a_11 n_6 c_8, Value.bool x_9, Value.string x_10, Value.string x_11, Value.slice a_12 n_7 c_9] ∧ (∃ (a : Option Addr), ∃ (n_8 : Nat), ∃ (c : Nat), cellAt h b4 1 = some (Value.slice a n_8 c) ∧ Value.slice a n_8 c = Value.slice a_7 n c_4) ∧ ∀ (b : Nat) (h' : Array Obj), b = Array.size h → h' = Array.push h (Obj.cells #[Value.string x, Value.slice a_11 n_6 c_8, Value.bool x_9, Value.string x_10, Value.string x_11, Value.slice a_12 n_7 c_9] 82) → (∃ (a : Option Addr), ∃ (n_8 : Nat), ∃ (c : Nat), cellAt h' b4 1 = some (Value.slice a n_8 c) ∧ Value.slice a n_8 c = Value.slice a_7 n c_4) ∧ AppK 82 6 104 [Value.string (ByteArray.mk #[]), Value.slice none 0 0, Value.bool false, Value.string (ByteArray.mk #[]), Value.string (ByteArray.mk #[]), Value.slice none 0 0] (Value.slice a_7 n c_4) (Value.slice (some (Addr.mk b 0 none)) 1 1) h' fun (a_15 : Option Addr) (n c_10 : Nat) (h : Heap) => Writable h b4 1 1 ∧ ∀ (h' : Heap), h' = setCells h b4 1 [Value.slice a_15 n c_10] → ∃ (n : Int), Wr IntKind.i64 ((↑i : Int) + 1) n ∧ ∃ (x' : Nat), (Value.pointer (some (Addr.mk b2 0 none)) = Value.pointer (some (Addr.mk b2 0 none)) ∧ Value.slice none 0 0 = Value.slice none 0 0 ∧ Value.pointer (some (Addr.mk b4 0 none)) = Value.pointer (some (Addr.mk b4 0 none)) ∧ Value.slice a (List.length ps) c = Value.slice a (List.length ps) c ∧ Value.int IntKind.i64 (↑(List.length ps) : Int) = Value.int IntKind.i64 (↑(List.length ps) : Int) ∧ Value.int IntKind.i64 n = Value.int IntKind.i64 (↑x' : Int) ∧ True) ∧ (x' ≤ List.length ps ∧ Ext (fun (b : Nat) => b < Array.size h8 ∧ b ≠ b4) h8 h' ∧ ∃ (S' : BS), ∃ (v2 : Value), (∀ (b : Nat), S' b → Array.size h8 ≤ b ∧ b < Array.size h') ∧ RSt eSig S' h' b4 [Value.slice va (List.length vs) vc] v2 [] (List.map sigOf (List.take x' ps)) ∧ ∀ (b : Nat), blkOf v2 = some b → Array.size h8 ≤ b) ∧ List.length ps - x' < List.length ps - i) fun (ch : List PanicEntry) (h : Heap) => X ch h) (∃ (a : Option Addr), ∃ (n : Nat), ∃ (c : Nat), cellAt h' b4 0 = some (Value.slice a n c) ∧ CallK Tryz.prog 32 [Value.slice a n c, Value.func (Fn.func 33) #[] #[]] h' (fun (v : Value) (h : Heap) => v = Value.tuple #[] ∧ ∃ (a : Option Addr), ∃ (n : Nat), ∃ (c : Nat), cellAt h b4 1 = some (Value.slice a n c) ∧ CallK Tryz.prog 35 [Value.slice a n c, Value.func (Fn.func 36) #[] #[]] h (fun (v : Value) (h : Heap) => v = Value.tuple #[] ∧ ∃ (a : Option Addr), ∃ (n : Nat), ∃ (c : Nat), cellAt h b4 0 = some (Value.slice a n c) ∧ ∃ (a_1 : Option Addr), ∃ (n_1 : Nat), ∃ (c_1 : Nat), cellAt h b4 1 = some (Value.slice a_1 n_1 c_1) ∧ Writable h b2 0 2 ∧ ∀ (h' : Heap), h' = setCells h b2 0 [Value.slice a n c, Value.slice a_1 n_1 c_1] → ∃ (a : Option Addr), ∃ (n : Nat), ∃ (c : Nat), cellAt h' b2 0 = some (Value.slice a n c) ∧ ∃ (a_2 : Option Addr), ∃ (n_2 : Nat), ∃ (c_2 : Nat), cellAt h' b2 1 = some (Value.slice a_2 n_2 c_2) ∧ K (Value.tuple #[Value.agg #[Value.slice a n c, Value.slice a_2 n_2 c_2], Value.slice none 0 0]) h') fun (ch : List PanicEntry) (h : Heap) => X ch h) fun (ch : List PanicEntry) (h : Heap) => X ch h)) (by kernel_rfl) ?_
  refine iteB_in (fun hlt => ?_) (fun hge => ?_)
  · have hlt : i < ps.length := by simpa using hlt
    obtain ⟨b, o, rfl, hb, a1, n1, c1, a2, n2, c2, a3, n3, c3, k0, k1, k2, k3, k4, k5, k6, k7, s1, s2, s3⟩ := (hps.ext he).atProc hlt
    refine ⟨b, o, i, rfl, rfl, hlt, _, k0, _, _, _, k1, _, k2, _, k3, _, k4, _, _, _, k5, _, _, _, k6, _, k7, box_then rfl rfl fun h9 hb9 e9 hs9 => ?_⟩
    obtain ⟨la, lc, rfl⟩ := f2.form
    have f9 := f2.extA (fun b hb => (hS' b hb).2) e9
    have hsz := he.size
    refine ⟨_, _, _, blk_cell f9.blk rfl, _, blk_cell hb9 rfl, _, _, _, blk_cell hb9 rfl, _, blk_cell hb9 rfl, _, blk_cell hb9 rfl, _, blk_cell hb9 rfl, _, _, _, blk_cell hb9 rfl, _, _, _, blk_cell hb9 rfl, _, blk_cell hb9 rfl, ?_⟩
    have hl4 := hl3 _ (List.getElem_mem hlt)
    have e9' : Ext (fun b => b < h8.size ∧ b ≠ b4) h' h9 := e9.mono fun b hb => by show b < h'.size; omega
    refine sig_spec (S := fun b => b < h8.size ∧ b ≠ b4) (p := ps[i]) ⟨_, _, _, rfl, s1.ext e9', s2.ext e9', s3.ext e9'⟩ (fun b hb => by omega) hl4.1 hl4.2 fun cs h10 e10 hr => ?_
    obtain ⟨wp, wu, rfl, q1, q2⟩ := id hr
    obtain ⟨xa, xc, rfl, _⟩ := q1.form
    obtain ⟨ya, yc, rfl, _⟩ := q2.form
    have hS9 : ∀ b, S' b → b < h9.size := fun b hb => by have := (hS' b hb).2; omega
    have f10 := f9.extA hS9 e10
    have hs10 := e10.size
    refine ⟨_, _, _, _, _, _, _, _, _, _, rfl, ⟨_, _, _, blk_cell f10.blk rfl, rfl⟩, ?_⟩
    rintro b11 h11 rfl hh11
    have e11 : Ext (Al h10) h10 h11 := by rw [hh11]; exact Ext.pushA
    refine ⟨⟨_, _, _, blk_cell (f10.extA (fun b hb => by have := hS9 b hb; omega) e11).blk rfl, rfl⟩, ?_⟩
    have hS10 : ∀ b, (S' b ∨ New h9 h10 b) → b < h10.size := by
      rintro b (hb | hb)
      · have := hS9 b hb; omega
      · exact hb.2
    have fw : RSt eSig (fun b => S' b ∨ New h9 h10 b) h10 b4 [.slice va vs.length vc] (.slice la _ lc) [] ((ps.take i).map sigOf) :=
      ⟨f10.blk, own_widen f10.own (fun _ hb => .inl hb) (fun b hb => by
        rintro (h1 | h1)
        · exact (f10.own.fresh hb).1 h1
        · have := (f9.own.fresh hb).2; have := h1.1; omega), (by
        rintro (h1 | h1)
        · exact f10.np h1
        · have := h1.1; have := f9.blk.lt; omega), f10.nl⟩
    refine fw.own.app hS10 (css := [_]) (ys := [sigOf ps[i]]) ⟨eSig.mono hr fun _ hb => .inr hb, trivial⟩ rfl rfl rfl (by simp; omega) (by simp; omega) (fun a5 n5 c5 h5 hn5 g => ?_) _ _ rfl hh11
    obtain ⟨hw, f5, e5, hbl⟩ := fw.told g
    refine ⟨hw, ?_⟩
    rintro h6 rfl
    refine ⟨_, wrI (by omega) (by omega), i + 1, ⟨rfl, rfl, rfl, rfl, rfl, rfl, trivial⟩, ⟨hlt, ?_, (fun b => S' b ∨ New h9 h10 b), _, ?_, by rw [map_take_succ _ _ _ hlt]; exact f5, fun b hb => ?_⟩, by omega⟩
    · refine he.trans ((e9'.trans (e10.mono fun b hb => by show b < h9.size; omega)).trans (e5.mono fun b hb => ⟨by omega, hb.2, fun h => ?_⟩))
      have := hv2 b h; omega
    · have hs5 : h10.size ≤ (setCells h5 b4 1 [.slice a5 n5 c5]).size := e5.size
      rintro b (hb | hb)
      · have := hS' b hb; omega
      · have := hb.1; have := hb.2; omega
    · rcases hbl b hb with h1 | h1
      · exact hv2 b h1
      · omega
  · obtain rfl : i = ps.length := by simp at hge; omega
    rw [List.take_length] at f2
    have hsz := he.size
    obtain ⟨la, lc, rfl⟩ := f2.form
    have o1 : Own eVar (fun _ => False) h' (.slice va vs.length vc) vs := hf.own.ext he (fun _ h => h.elim) fun b hb => ⟨(hf.own.fresh hb).2, fun e => hf.nl (e ▸ hb)⟩
    refine ⟨_, _, _, blk_cell f2.blk rfl, ?_⟩
    refine sortVar_spec o1 (fun _ h => h.elim) (by omega) hvn fun h9 g9 => ⟨rfl, ?_⟩
    have hvb : ∀ b, blkOf (Value.slice va vs.length vc) = some b → b < h8.size ∧ b ≠ b4 := fun b hb => ⟨(hf.own.fresh hb).2, fun e => hf.nl (e ▸ hb)⟩
    have e9 : Ext (fun b => b < h'.size ∧ blkOf (.slice va vs.length vc) ≠ some b) h' h9 := g9.ext _ (fun _ h => h.1) fun b h1 h2 => h2.2 h1
    have hs9 := e9.size
    have f9 := f2.ext (e9.mono fun b hb => ⟨f2.lt (fun b hb => (hS' b hb).2) b hb, fun h1 => by
      have h3 := hvb b h1
      rcases hb with hb | rfl | hb
      · have := (hS' b hb).1; omega
      · exact h3.2 rfl
      · have := hv2 b hb; omega⟩)
    refine ⟨_, _, _, blk_cell f9.blk rfl, ?_⟩
    have hS9 : ∀ b, S' b → b < h9.size := fun b hb => by have := (hS' b hb).2; omega
    refine sortSig_spec f9.own hS9 (by simpa using by omega) hpn fun h10 g10 => ⟨rfl, ?_⟩
    have e10 : Ext (fun b => b < h9.size ∧ blkOf (.slice la (ps.map sigOf).length lc) ≠ some b) h9 h10 := g10.ext _ (fun _ h => h.1) fun b h1 h2 => h2.2 h1
    have hs10 := e10.size
    have hb4 := f9.blk.ext e10 ⟨f9.blk.lt, f9.nl⟩
    refine ⟨_, _, _, blk_cell hb4 rfl, _, _, _, blk_cell hb4 rfl, ?_⟩
    have hb29 := (hb2.ext he ⟨h2lt, h24⟩).ext e9 ⟨by omega, fun h => (hv1 _ h).2 rfl⟩
    have hb210 := hb29.ext e10 ⟨by omega, fun h => by have := hv2 _ h; omega⟩
    refine ⟨hb210.can (by omega), ?_⟩
    rintro h11 rfl
    have hset := hb210.set (o := 0) (us := [.slice va vs.length vc, .slice la (ps.map sigOf).length lc]) (by simp; omega)
    rw [List.take_zero, List.nil_append, List.drop_of_length_le (by simp; omega), List.append_nil] at hset
    refine ⟨_, _, _, blk_cell hset rfl, _, _, _, blk_cell hset rfl, ?_⟩
    have e11 : Ext (fun b => b ≠ b2) h10 (setCells h10 b2 0 [.slice va vs.length vc, .slice la (ps.map sigOf).length lc]) := Ext.set fun h => h rfl
    refine hK _ _ _ ?_ ?_ ?_
    · refine (((he.mono fun b hb => ⟨hb.1, hb.2.1⟩).trans (e9.mono fun b hb => ⟨by omega, hb.2.2.2⟩)).trans (e10.mono fun b hb => ⟨by omega, fun h => ?_⟩)).trans (e11.mono fun b hb => hb.2.2.1)
      have := hv2 b h; omega
    · have o10 := g9.own.ext e10 (fun _ h => h.elim) fun b hb => ⟨(g9.own.fresh hb).2, fun h => by have := hv2 b h; have := hvb b hb; omega⟩
      have o11 := o10.ext e11 (fun _ h => h.elim) fun b hb => (hv1 b hb).2
      exact o11.sl (fun _ h => h.elim) fun b hb => ⟨(hv1 b hb).1, (o11.fresh hb).2⟩
    · have o11 := g10.own.ext e11 (fun b hb e => by have := (hS' b hb).1; omega) fun b hb e => by have := hv2 b hb; omega
      exact o11.sl (fun b hb => by have := hS' b hb; exact ⟨by omega, by rw [size_setCells]; omega⟩) fun b hb => ⟨by have := hv2 b hb; omega, (o11.fresh hb).2⟩

def vars0 (m : Module) : List Var := m.vars.map fun v => ⟨v.name, v.label, 0, 0⟩

theorem of_loop1 {N0 b b1 b2 b3 b4 n c : Nat} {a a1 a3 : Option Addr} {n1 c1 n2 c2 n3 c3 : Nat} {a2 : Option Addr} {r0 r1 r28 : Value} {m : Module} {h7 : Heap} {pcs : List Value} (hnp : n = m.vars.length) (hn3 : n3 = m.procs.length)
    (hvs : Sl eVar (fun x => x < h7.size ∧ x ≠ b4) h7 (.slice a n c) m.vars) (hps : Sl eProc (fun x => x < h7.size ∧ x ≠ b4) h7 (.slice a3 n3 c3) m.procs)
    (hbm : Blk h7 b [.string m.name, .int .i64 m.at_, .slice a1 n1 c1, .slice a2 n2 c2, .slice a3 n3 c3]) (hb4 : b ≠ b4)
    (hb2 : Blk h7 b2 pcs) (hpl : pcs.length = 2) (h24 : b2 ≠ b4) (hN4 : N0 ≤ b4) (hN7 : N0 ≤ h7.size)
    (hf : Blk h7 b4 [.slice none 0 0, .slice none 0 0]) (hvn : NoTwins Var.name (vars0 m)) (hpn : NoTwins Sig.name (m.procs.map sigOf))
    (hl1 : m.vars.length ≤ 10000) (hl2 : m.procs.length ≤ 10000) (hl3 : ∀ q ∈ m.procs, q.params.length ≤ 10000 ∧ q.uses.length ≤ 100000000)
    (hK : ∀ u1 u2 h', Ext (fun b => b < h7.size ∧ b ≠ b4 ∧ b ≠ b2) h7 h' → Sl eVar (fun b => N0 ≤ b ∧ b < h'.size) h' u1 (sortN Var.name (vars0 m)) → Sl eSig (fun b => N0 ≤ b ∧ b < h'.size) h' u2 (sortN Sig.name (m.procs.map sigOf)) → K (.tuple #[.agg #[u1, u2], .slice none 0 0]) h') :
    VSem Tryz.prog fc13 (cd Tryz.f13 22) [(0, r0), (1, r1), (2, Value.pointer (some (Addr.mk b 0 none))), (3, Value.pointer (some (Addr.mk b1 0 none))), (4, Value.pointer (some (Addr.mk b2 0 none))), (5, Value.slice none 0 0), (6, Value.pointer (some (Addr.mk b3 0 none))), (7, Value.pointer (some (Addr.mk b4 0 none))), (28, r28), (35, Value.slice a n c), (36, Value.int IntKind.i64 (↑n : Int)), (37, Value.int IntKind.i64 0)] h7 (vcBlock 0 (vcThen (fun (r : Regs) (h : Heap) => vcCode Tryz.prog fc13 (cd Tryz.f13 35) r h (vcPost Tryz.prog (Array.toList (Func.results Tryz.f13)) K X)) (vcPost Tryz.prog (Array.toList (Func.results Tryz.f13)) K X))) := by
  subst hnp
  refine loop_sem mixed (α := Nat) (fun i => [(2, .pointer (some ⟨b, 0, none⟩)), (4, .pointer (some ⟨b2, 0, none⟩)), (5, .slice none 0 0), (7, .pointer (some ⟨b4, 0, none⟩)), (35, .slice a m.vars.length c), (36, .int .i64 m.vars.length), (37, .int .i64 i)])
    (fun i h' => i ≤ m.vars.length ∧ Ext (fun x => x < h7.size ∧ x ≠ b4) h7 h' ∧ ∃ v, RSt eVar (fun _ => False) h' b4 [] v [.slice none 0 0] ((m.vars.take i).map fun v => ⟨v.name, v.label, 0, 0⟩) ∧ ∀ x, blkOf v = some x → h7.size ≤ x)
    (fun i _ => m.vars.length - i) 0 (by kernel_rfl) ⟨rfl, rfl, rfl, rfl, rfl, rfl, rfl, trivial⟩ ⟨Nat.zero_le _, Ext.rfl, .slice none 0 0, ⟨hf, Own.nil, (fun h => h), (fun h => by cases h)⟩, (fun b hb => by cases hb)⟩ ?_
  rintro i h' ⟨hi, he, v, f, hv⟩
  have hsz := he.size
  refine Wrap.mk ?_; refine kmp (B := iteB (decide ((↑i : Int) < (↑(List.length (Module.vars m)) : Int))) (∃ (b_1 : Nat), ∃ (o : Nat), ∃ (j : Nat), a = some (Addr.mk b_1 o none) ∧ (↑i : Int) = (↑j : Int) ∧ j < List.length (Module.vars m) ∧ ∃ (x : ByteArray), cellAt h' b_1 (o + j * 4) = some (Value.string x) ∧ ∃ (x_1 : ByteArray), cellAt h' b_1 (o + j * 4 + 1) = some (Value.string x_1) ∧ ∃ (x_2 : Int), cellAt h' b_1 (o + j * 4 + 1 + 1) = some (Value.int IntKind.i64 x_2) ∧ ∃ (x_3 : Int), cellAt h' b_1 (o + j * 4 + 1 + 1 + 1) = some (Value.int IntKind.i64 x_3) ∧ ∀ (b_2 : Nat) (h'_1 : Array Obj), b_2 = Array.size h' → h'_1 = Array.push h' (Obj.cells #[Value.string (ByteArray.mk #[]), Value.string (ByteArray.mk #[]), Value.int IntKind.i64 0, Value.int IntKind.i64 0] 80) → Writable h'_1 b_2 0 4 ∧ ∀ (h' : Heap), h' = setCells h'_1 b_2 0 [Value.string x, Value.string x_1, Value.int IntKind.i64 x_2, Value.int IntKind.i64 x_3] → ∃ (a_4 : Option Addr), ∃ (n : Nat), ∃ (c_1 : Nat), cellAt h' b4 0 = some (Value.slice a_4 n c_1) ∧ ∃ (x : ByteArray), cellAt h' b_2 0 = some (Value.string x) ∧ ∃ (x_4 : ByteArray), cellAt h' b_2 1 = some (Value.string x_4) ∧ ∀ (b_3 : Nat) (h'_2 : Array Obj), b_3 = Array.size h' → h'_2 = Array.push h' (Obj.cells #[Value.string x, Value.string x_4, Value.int IntKind.i64 0, Value.int IntKind.i64 0] 80) → AppK 80 4 48 [Value.string (ByteArray.mk #[]), Value.string (ByteArray.mk #[]), Value.int IntKind.i64 0, Value.int IntKind.i64 0] (Value.slice a_4 n c_1) (Value.slice (some (Addr.mk b_3 0 none)) 1 1) h'_2 fun (a_7 : Option Addr) (n c_2 : Nat) (h : Heap) => Writable h b4 0 1 ∧ ∀ (h' : Heap), h' = setCells h b4 0 [Value.slice a_7 n c_2] → ∃ (n : Int), Wr IntKind.i64 ((↑i : Int) + 1) n ∧ ∃ (x' : Nat), (Value.pointer (some (Addr.mk b 0 none)) = Value.pointer (some (Addr.mk b 0 none)) ∧ Value.pointer (some (Addr.mk b2 0 none)) = Value.pointer (some (Addr.mk b2 0 none)) ∧ Value.slice none 0 0 = Value.slice none 0 0 ∧ Value.pointer (some (Addr.mk b4 0 none)) = Value.pointer (some (Addr.mk b4 0 none)) ∧ Value.slice a (List.length (Module.vars m)) c = Value.slice a (List.length (Module.vars m)) c ∧ Value.int IntKind.i64 (↑(List.length (Module.vars m)) : Int) = Value.int IntKind.i64 (↑(List.length (Module.vars m)) : Int) ∧ Value.int IntKind.i64 n = Value.int IntKind.i64 (↑x' : Int) ∧ True) ∧ (x' ≤ List.length (Module.vars m) ∧ Ext (fun (x : Nat) => x < Array.size h7 ∧ x ≠ b4) h7 h' ∧ ∃ (v : Value), RSt eVar (fun (x : Nat) => False) h' b4 [] v [Value.slice none 0 0] (List.map (fun (v : Var) => Var.mk (Var.name v) (Var.label v) 0 0) (List.take x' (Module.vars m))) ∧ ∀ (x : Nat), blkOf v = some x → Array.size h7 ≤ x) ∧ List.length (Module.vars m) - x' < List.length (Module.vars m) - i) (∃ (a_1 : Option Addr), ∃ (n : Nat), ∃ (c_1 : Nat), cellAt h' b 4 = some (Value.slice a_1 n c_1) ∧ VSem Tryz.prog fc13 (cd Tryz.f13 39) [(2, Value.pointer (some (Addr.mk b 0 none))), (4, Value.pointer (some (Addr.mk b2 0 none))), (5, Value.slice none 0 0), (7, Value.pointer (some (Addr.mk b4 0 none))), (35, Value.slice a (List.length (Module.vars m)) c), (36, Value.int IntKind.i64 (↑(List.length (Module.vars m)) : Int)), (37, Value.int IntKind.i64 (↑i : Int)), (38, Value.bool (decide ((↑i : Int) < (↑(List.length (Module.vars m)) : Int)))), (53, Value.slice a_1 n c_1), (54, Value.int IntKind.i64 (↑n : Int)), (55, Value.int IntKind.i64 0)] h' (vcBlock 2 (vcThen (fun (r : Regs) (h : Heap) => vcCode Tryz.prog fc13 (cd Tryz.f13 52) r h (vcPost Tryz.prog (Array.toList (Func.results Tryz.f13)) K X)) (vcPost Tryz.prog (Array.toList (Func.results Tryz.f13)) K X))))) (by kernel_rfl) ?_
  refine iteB_in (fun hlt => ?_) (fun hge => ?_)
  · have hlt : i < m.vars.length := by simpa using hlt
    obtain ⟨bb, o, rfl, hb, k0, k1, k2, k3⟩ := (hvs.ext he).atVar hlt
    obtain ⟨la, lc, rfl⟩ := f.form
    refine ⟨bb, o, i, rfl, rfl, hlt, _, k0, _, k1, _, k2, _, k3, box_then rfl rfl fun h9 hb9 e9 hs9 => ?_⟩
    have f9 := f.extA (fun _ h => h.elim) e9
    refine ⟨_, _, _, blk_cell f9.blk rfl, _, blk_cell hb9 rfl, _, blk_cell hb9 rfl, ?_⟩
    refine f9.own.app (fun _ h => h.elim) (css := [_]) (ys := [⟨m.vars[i].name, m.vars[i].label, 0, 0⟩]) ⟨rfl, trivial⟩ rfl rfl rfl (by simp; omega) (by simp; omega) fun a5 n5 c5 h5 hn5 g => ?_
    obtain ⟨hw, f5, e5, hbl⟩ := f9.told g
    refine ⟨hw, ?_⟩
    rintro h6 rfl
    refine ⟨_, wrI (by omega) (by omega), i + 1, ⟨rfl, rfl, rfl, rfl, rfl, rfl, rfl, trivial⟩, ⟨hlt, ?_, _, by rw [map_take_succ _ _ _ hlt]; exact f5, fun x hx => ?_⟩, by omega⟩
    · refine he.trans ((e9.mono fun b hb => by show b < h'.size; omega).trans (e5.mono fun b hb => ⟨by omega, hb.2, fun h => by have := hv b h; omega⟩))
    · rcases hbl x hx with h1 | h1
      · exact hv x h1
      · omega
  · obtain rfl : i = m.vars.length := by simp at hge; omega
    rw [List.take_length] at f
    have hbm' := hbm.ext he ⟨hbm.lt, hb4⟩
    refine ⟨_, _, _, blk_cell hbm' rfl, ?_⟩
    have h2lt := hb2.lt
    refine of_loop2 (vs := vars0 m) (N0 := N0) (v1 := v) hn3 ((hps.ext he).mono fun b hb => ⟨by omega, hb.2⟩) (hb2.ext he ⟨h2lt, h24⟩) hpl h24 hN4 f (fun b hb => ⟨by have := hv b hb; omega, fun e => by have := hv b hb; omega⟩) hvn hpn (by simpa [vars0] using hl1) hl2 hl3 fun u1 u2 h8 e8 q1 q2 => hK u1 u2 h8 ?_ q1 q2
    refine (he.mono fun b hb => ⟨hb.1, hb.2.1⟩).trans (e8.mono fun b hb => ⟨by omega, hb.2.1, hb.2.2, fun h => by have := hv b h; omega⟩)

theorem twices_le (m : Module) (h1 : m.imports.length ≤ 10000) (h2 : m.vars.length ≤ 10000) (h3 : m.procs.length ≤ 10000) (h4 : ∀ q ∈ m.procs, q.params.length ≤ 10000) : (twices m).length ≤ 200000000 := by
  unfold twices
  have k1 := dups_len m.name (m.imports.map fun i => (i.name, i.at_)) [m.name]
  have k2 := dups_len m.name (m.vars.map (fun v => (v.name, v.at_)) ++ m.procs.map fun p => (p.name, p.at_)) []
  have k3 := flatMap_len (fun p : Proc => dups m.name [] (p.params.map fun x => (x.name, x.at_))) 10000 m.procs fun x hx => by
    have := dups_len m.name (x.params.map fun x => (x.name, x.at_)) []
    have := h4 x hx
    rw [List.length_map] at *; omega
  have k4 : m.procs.length * 10000 ≤ 10000 * 10000 := Nat.mul_le_mul_right _ h3
  simp only [List.length_append, List.length_map] at *
  omega

theorem of_spec {cm ct : List Value} {m : Module} {t : Lattice} (hm : eModule.rep S h cm m) (ht : eLattice.rep S h ct t) (hS : ∀ b, S b → b < h.size)
    (hn : m.imports.length ≤ 10000 ∧ m.vars.length ≤ 10000 ∧ m.procs.length ≤ 10000 ∧ ∀ q ∈ m.procs, q.params.length ≤ 10000 ∧ q.uses.length ≤ 100000000) (htn : t.names.length ≤ 1000000)
    (hK : ∀ fc dv h', Ext (Al h) h h' → eFace.rep (New h h') h' fc (if wrongs m t = [] then faceOf m else ⟨[], []⟩) → Sl eDiag (New h h') h' dv (wrongs m t) → K (.tuple #[.agg fc.toArray, dv]) h') :
    CallK Tryz.prog 13 [.agg cm.toArray, .agg ct.toArray] h K X := by
  have hm0 := hm
  have ht0 := ht
  obtain ⟨vi, vv, vp, rfl, hi, hv, hp⟩ := hm
  obtain ⟨a1, c1, rfl, _⟩ := hi.form
  obtain ⟨a2, c2, rfl, _⟩ := hv.form
  obtain ⟨a3, c3, rfl, _⟩ := hp.form
  obtain ⟨vn, vl, vj, vm, rfl, h1, h2, h3, h4⟩ := ht
  obtain ⟨a4, c4, rfl, _⟩ := h1.form
  obtain ⟨a5, c5, rfl, _⟩ := h2.form
  obtain ⟨a6, c6, rfl, _⟩ := h3.form
  obtain ⟨a7, c7, rfl, _⟩ := h4.form
  refine callK_of_vc fc13 mixed Tryz.func13 ok13 (Nat.le_of_ble_eq_true rfl) ?_
  refine kmp (B := ∀ (b : Nat) (h' : Array Obj), b = Array.size h → h' = Array.push h (Obj.cells #[Value.string (Module.name m), Value.int IntKind.i64 (Module.at_ m), Value.slice a1 (List.length (Module.imports m)) c1, Value.slice a2 (List.length (Module.vars m)) c2, Value.slice a3 (List.length (Module.procs m)) c3] 31) → ∀ (b_1 : Nat) (h'_1 : Array Obj), b_1 = Array.size h' → h'_1 = Array.push h' (Obj.cells #[Value.slice a4 (List.length (Lattice.names t)) c4, Value.slice a5 (List.length (Lattice.le t)) c5, Value.slice a6 (List.length (Lattice.join t)) c6, Value.slice a7 (List.length (Lattice.meet t)) c7, Value.int IntKind.i64 (Lattice.low t), Value.int IntKind.i64 (Lattice.high t)] 43) → ∀ (b_2 : Nat) (h' : Array Obj), b_2 = Array.size h'_1 → h' = Array.push h'_1 (Obj.cells #[Value.slice none 0 0, Value.slice none 0 0] 36) → ∃ (x : ByteArray), cellAt h' b 0 = some (Value.string x) ∧ ∃ (a : Option Addr), ∃ (n : Nat), ∃ (c : Nat), cellAt h' b_1 0 = some (Value.slice a n c) ∧ ∃ (a_1 : Option Addr), ∃ (n_1 : Nat), ∃ (c_1 : Nat), cellAt h' b_1 1 = some (Value.slice a_1 n_1 c_1) ∧ ∃ (a_2 : Option Addr), ∃ (n_2 : Nat), ∃ (c_2 : Nat), cellAt h' b_1 2 = some (Value.slice a_2 n_2 c_2) ∧ ∃ (a_3 : Option Addr), ∃ (n_3 : Nat), ∃ (c_3 : Nat), cellAt h' b_1 3 = some (Value.slice a_3 n_3 c_3) ∧ ∃ (x_1 : Int), cellAt h' b_1 4 = some (Value.int IntKind.i64 x_1) ∧ ∃ (x_2 : Int), cellAt h' b_1 5 = some (Value.int IntKind.i64 x_2) ∧ ∀ (b_3 : Nat) (h'_2 : Array Obj), b_3 = Array.size h' → h'_2 = Array.push h' (Obj.cells #[Value.string x, Value.slice a n c, Value.slice a_1 n_1 c_1, Value.slice a_2 n_2 c_2, Value.slice a_3 n_3 c_3, Value.int IntKind.i64 x_1, Value.int IntKind.i64 x_2, Value.slice none 0 0] 77) → ∃ (x : ByteArray), cellAt h'_2 b 0 = some (Value.string x) ∧ ∃ (x_3 : Int), cellAt h'_2 b 1 = some (Value.int IntKind.i64 x_3) ∧ ∃ (a : Option Addr), ∃ (n : Nat), ∃ (c : Nat), cellAt h'_2 b 2 = some (Value.slice a n c) ∧ ∃ (a_5 : Option Addr), ∃ (n_4 : Nat), ∃ (c_4 : Nat), cellAt h'_2 b 3 = some (Value.slice a_5 n_4 c_4) ∧ ∃ (a_6 : Option Addr), ∃ (n_5 : Nat), ∃ (c_5 : Nat), cellAt h'_2 b 4 = some (Value.slice a_6 n_5 c_5) ∧ CallK Tryz.prog 29 [Value.pointer (some (Addr.mk b_3 0 none)), Value.agg #[Value.string x, Value.int IntKind.i64 x_3, Value.slice a n c, Value.slice a_5 n_4 c_4, Value.slice a_6 n_5 c_5]] h'_2 (fun (v : Value) (h : Heap) => v = Value.tuple #[] ∧ ∃ (x : ByteArray), cellAt h b 0 = some (Value.string x) ∧ ∃ (x_4 : Int), cellAt h b 1 = some (Value.int IntKind.i64 x_4) ∧ ∃ (a : Option Addr), ∃ (n : Nat), ∃ (c : Nat), cellAt h b 2 = some (Value.slice a n c) ∧ ∃ (a_7 : Option Addr), ∃ (n_6 : Nat), ∃ (c_6 : Nat), cellAt h b 3 = some (Value.slice a_7 n_6 c_6) ∧ ∃ (a_8 : Option Addr), ∃ (n_7 : Nat), ∃ (c_7 : Nat), cellAt h b 4 = some (Value.slice a_8 n_7 c_7) ∧ CallK Tryz.prog 30 [Value.pointer (some (Addr.mk b_3 0 none)), Value.agg #[Value.string x, Value.int IntKind.i64 x_4, Value.slice a n c, Value.slice a_7 n_6 c_6, Value.slice a_8 n_7 c_7]] h (fun (v : Value) (h : Heap) => v = Value.tuple #[] ∧ ∃ (a : Option Addr), ∃ (n : Nat), ∃ (c : Nat), cellAt h b_3 7 = some (Value.slice a n c) ∧ iteB (decide ((↑n : Int) > 0)) (∃ (a : Option Addr), ∃ (n : Nat), ∃ (c : Nat), cellAt h b_3 7 = some (Value.slice a n c) ∧ Writable h b_2 0 2 ∧ ∀ (h' : Heap), h' = setCells h b_2 0 [Value.slice none 0 0, Value.slice none 0 0] → (∃ (a_10 : Option Addr), ∃ (n_8 : Nat), ∃ (c_8 : Nat), cellAt h' b_3 7 = some (Value.slice a_10 n_8 c_8) ∧ Value.slice a_10 n_8 c_8 = Value.slice a n c) ∧ ∃ (a_10 : Option Addr), ∃ (n_8 : Nat), ∃ (c_8 : Nat), cellAt h' b_2 0 = some (Value.slice a_10 n_8 c_8) ∧ ∃ (a_11 : Option Addr), ∃ (n_9 : Nat), ∃ (c_9 : Nat), cellAt h' b_2 1 = some (Value.slice a_11 n_9 c_9) ∧ K (Value.tuple #[Value.agg #[Value.slice a_10 n_8 c_8, Value.slice a_11 n_9 c_9], Value.slice a n c]) h') (∀ (b_4 : Nat) (h' : Array Obj), b_4 = Array.size h → h' = Array.push h (Obj.cells #[Value.slice none 0 0, Value.slice none 0 0] 36) → ∃ (a : Option Addr), ∃ (n_8 : Nat), ∃ (c : Nat), cellAt h' b 3 = some (Value.slice a n_8 c) ∧ VSem Tryz.prog fc13 (cd Tryz.f13 22) [(0, Value.agg #[Value.string (Module.name m), Value.int IntKind.i64 (Module.at_ m), Value.slice a1 (List.length (Module.imports m)) c1, Value.slice a2 (List.length (Module.vars m)) c2, Value.slice a3 (List.length (Module.procs m)) c3]), (1, Value.agg #[Value.slice a4 (List.length (Lattice.names t)) c4, Value.slice a5 (List.length (Lattice.le t)) c5, Value.slice a6 (List.length (Lattice.join t)) c6, Value.slice a7 (List.length (Lattice.meet t)) c7, Value.int IntKind.i64 (Lattice.low t), Value.int IntKind.i64 (Lattice.high t)]), (2, Value.pointer (some (Addr.mk b 0 none))), (3, Value.pointer (some (Addr.mk b_1 0 none))), (4, Value.pointer (some (Addr.mk b_2 0 none))), (5, Value.slice none 0 0), (6, Value.pointer (some (Addr.mk b_3 0 none))), (7, Value.pointer (some (Addr.mk b_4 0 none))), (28, Value.bool (decide ((↑n : Int) > 0))), (35, Value.slice a n_8 c), (36, Value.int IntKind.i64 (↑n_8 : Int)), (37, Value.int IntKind.i64 0)] h' (vcBlock 0 (vcThen (fun (r : Regs) (h : Heap) => vcCode Tryz.prog fc13 (cd Tryz.f13 35) r h (vcPost Tryz.prog (Array.toList (Func.results Tryz.f13)) K X)) (vcPost Tryz.prog (Array.toList (Func.results Tryz.f13)) K X))))) fun (ch : List PanicEntry) (h : Heap) => X ch h) fun (ch : List PanicEntry) (h : Heap) => X ch h) (by kernel_rfl) ?_ -- ENTERED
  rintro b h1 rfl hh1
  have e1 : Ext (Al h) h h1 := by rw [hh1]; exact Ext.pushA
  have s1 : h1.size = h.size + 1 := by rw [hh1]; simp
  have hb1 : Blk h1 h.size [.string m.name, .int .i64 m.at_, .slice a1 m.imports.length c1, .slice a2 m.vars.length c2, .slice a3 m.procs.length c3] := by rw [hh1]; exact Blk.push
  clear hh1
  rintro b' h2 rfl hh2
  have e2 : Ext (Al h1) h1 h2 := by rw [hh2]; exact Ext.pushA
  have s2 : h2.size = h1.size + 1 := by rw [hh2]; simp
  have hb2 : Blk h2 h1.size [.slice a4 t.names.length c4, .slice a5 t.le.length c5, .slice a6 t.join.length c6, .slice a7 t.meet.length c7, .int .i64 t.low, .int .i64 t.high] := by rw [hh2]; exact Blk.push
  clear hh2
  rintro b' h3 rfl hh3
  have e3 : Ext (Al h2) h2 h3 := by rw [hh3]; exact Ext.pushA
  have s3 : h3.size = h2.size + 1 := by rw [hh3]; simp
  have hb3 : Blk h3 h2.size [.slice none 0 0, .slice none 0 0] := by rw [hh3]; exact Blk.push
  clear hh3
  have hb13 := (hb1.ext e2 hb1.lt).ext e3 (by show _ < _; have := hb1.lt; omega)
  have hb23 := hb2.ext e3 hb2.lt
  refine ⟨_, blk_cell hb13 rfl, _, _, _, blk_cell hb23 rfl, _, _, _, blk_cell hb23 rfl, _, _, _, blk_cell hb23 rfl, _, _, _, blk_cell hb23 rfl, _, blk_cell hb23 rfl, _, blk_cell hb23 rfl, ?_⟩
  rintro b' h4 rfl hh4
  have e4 : Ext (Al h3) h3 h4 := by rw [hh4]; exact Ext.pushA
  have s4 : h4.size = h3.size + 1 := by rw [hh4]; simp
  have hb4 : Blk h4 h3.size [.string m.name, .slice a4 t.names.length c4, .slice a5 t.le.length c5, .slice a6 t.join.length c6, .slice a7 t.meet.length c7, .int .i64 t.low, .int .i64 t.high, .slice none 0 0] := by rw [hh4]; exact Blk.push
  clear hh4
  have e14 : Ext (Al h) h h4 := ((e1.trans (e2.al (by omega))).trans (e3.al (by omega))).trans (e4.al (by omega))
  have hb14 := hb13.ext e4 hb13.lt
  have hb34 := hb3.ext e4 hb3.lt
  have hm4 := eModule.mono (eModule.ext hm0 (e14.mono hS)) (S' := fun x => x < h3.size) fun b hb => by have := hS b hb; omega
  have ht4 := eLattice.mono (eLattice.ext ht0 (e14.mono hS)) (S' := fun x => x < h3.size) fun b hb => by have := hS b hb; omega
  refine ⟨_, blk_cell hb14 rfl, _, blk_cell hb14 rfl, _, _, _, blk_cell hb14 rfl, _, _, _, blk_cell hb14 rfl, _, _, _, blk_cell hb14 rfl, ?_⟩
  have f4 : FSt eDiag (fun x => x < h3.size) h4 h3.size [.string m.name, .slice a4 t.names.length c4, .slice a5 t.le.length c5, .slice a6 t.join.length c6, .slice a7 t.meet.length c7, .int .i64 t.low, .int .i64 t.high] (.slice none 0 0) [] :=
    ⟨hb4, Own.nil, (fun h => Nat.lt_irrefl _ h), fun h => by cases h⟩
  have hS4 : ∀ b, b < h3.size → b < h4.size := fun b hb => by omega
  refine names_spec (S := fun x => x < h3.size) (m := m) f4 rfl hm4 hS4 ⟨hn.1, hn.2.1, hn.2.2.1, fun q hq => (hn.2.2.2 q hq).1⟩ rfl fun l5 h5 e5 f5 => ⟨rfl, ?_⟩
  have hs5 := e5.size
  have hb15 := hb14.ext e5 (by omega)
  refine ⟨_, blk_cell hb15 rfl, _, blk_cell hb15 rfl, _, _, _, blk_cell hb15 rfl, _, _, _, blk_cell hb15 rfl, _, _, _, blk_cell hb15 rfl, ?_⟩
  have hm5 := eModule.ext hm4 e5
  have ht5 := eLattice.ext ht4 e5
  have hS5 : ∀ b, b < h3.size → b < h5.size := fun b hb => by omega
  have hwl : (twices m).length ≤ 200000000 := twices_le m hn.1 hn.2.1 hn.2.2.1 fun q hq => (hn.2.2.2 q hq).1
  refine labels_spec (S := fun x => x < h3.size) (m := m) (t := t) f5 ht5 hm5 hS5 ⟨hn.2.1, hn.2.2.1, fun q hq => (hn.2.2.2 q hq).1⟩ hwl htn fun l6 h6 e6 f6 => ⟨rfl, ?_⟩
  change FSt eDiag _ h6 _ _ l6 (wrongs m t) at f6
  have hs6 := e6.size
  have e46 := e5.trans e6
  have e06 : Ext (Al h) h h6 := e14.trans (e46.mono fun b hb => by have : b < h.size := hb; omega)
  have hb16 := hb15.ext e6 (by omega)
  have hb36 := hb34.ext e46 (by omega)
  obtain ⟨da, dc, rfl⟩ := f6.form
  refine ⟨_, _, _, blk_cell f6.blk rfl, iteB_in (fun hgt => ?_) (fun hle => ?_)⟩
  · have hw : wrongs m t ≠ [] := by rintro e; rw [e] at hgt; simp at hgt
    refine ⟨_, _, _, blk_cell f6.blk rfl, hb36.can (by simp), ?_⟩
    rintro h7 rfl
    have e7 : Ext (fun x => x ≠ h2.size) h6 (setCells h6 h2.size 0 [.slice none 0 0, .slice none 0 0]) := Ext.set fun h => h rfl
    have o7 : Own eDiag (fun _ => False) h6 (.slice da (wrongs m t).length dc) (wrongs m t) := f6.own.less (fun _ h => h.elim) fun css => repsDiag
    have hset : Blk (setCells h6 h2.size 0 [.slice none 0 0, .slice none 0 0]) h2.size [.slice none 0 0, .slice none 0 0] := hb36.set (o := 0) (us := [_, _]) (by simp)
    refine ⟨⟨_, _, _, blk_cell (f6.blk.ext e7 (by omega)) rfl, rfl⟩, _, _, _, blk_cell hset rfl, _, _, _, blk_cell hset rfl, ?_⟩
    refine hK [_, _] _ _ (e06.trans (e7.mono fun b hb e => by have : b < h.size := hb; omega)) ?_ ?_
    · rw [if_neg hw]
      exact ⟨_, _, rfl, Sl.nil, Sl.nil⟩
    · have hx : ∀ x, blkOf (.slice da (wrongs m t).length dc) = some x → h3.size ≤ x ∧ x < h6.size := fun x hx => ⟨Nat.le_of_not_lt (f6.own.fresh hx).1, (f6.own.fresh hx).2⟩
      exact (o7.ext e7 (fun _ h => h.elim) fun x hb e => by have := hx x hb; omega).sl (fun _ h => h.elim) fun x hb => ⟨by have := hx x hb; omega, by rw [size_setCells]; exact (hx x hb).2⟩
  · have hw : wrongs m t = [] := by
      have : ¬ (0 < (wrongs m t).length) := by simpa using hle
      exact List.length_eq_zero_iff.1 (by omega)
    rintro b' h7 rfl hh7
    have e7 : Ext (Al h6) h6 h7 := by rw [hh7]; exact Ext.pushA
    have s7 : h7.size = h6.size + 1 := by rw [hh7]; simp
    have hb7 : Blk h7 h6.size [.slice none 0 0, .slice none 0 0] := by rw [hh7]; exact Blk.push
    clear hh7
    have hb17 := hb16.ext e7 hb16.lt
    have e07 := e06.trans (e7.al e06.size)
    have hs0 := e06.size
    refine ⟨_, _, _, blk_cell hb17 rfl, ?_⟩
    have hnt := noTwins_of (List.append_eq_nil_iff.1 hw).1
    refine of_loop1 (N0 := h.size) (m := m) rfl rfl ?_ ?_ hb17 (by omega) (hb36.ext e7 hb36.lt) rfl (by omega) hs0 (by omega) hb7 hnt.1 hnt.2 hn.2.1 hn.2.2.1 hn.2.2.2 fun u1 u2 h8 e8 q1 q2 => hK [u1, u2] _ _ ?_ ?_ ?_
    · exact (hv.ext (e07.mono hS)).mono fun b hb => by have := hS b hb; omega
    · exact (hp.ext (e07.mono hS)).mono fun b hb => by have := hS b hb; omega
    · exact e07.trans (e8.mono fun b hb => by have : b < h.size := hb; omega)
    · rw [if_pos hw]
      exact ⟨u1, u2, rfl, q1, q2⟩
    · rw [hw]; exact Sl.nil

end Go.Proofs.YtdnlhicbjhgjiaaGreatDoor
