/- What a procedure shows. No condition. -/
import Derived.Test.YtdnlhicbjhgjiaaGreatDoorZE
namespace Go.Proofs.YtdnlhicbjhgjiaaGreatDoor
open Go Go.Vx
set_option maxRecDepth 100000

variable {S : BS} {K : Value → Heap → Prop} {X : List PanicEntry → Heap → Prop} {h : Heap}

theorem sig_loop {N0 : Nat} {r0 : Value} {b1 b2 b3 : Nat} {p : Proc} {T : BS} {h3 : Heap} {a7 : Option Addr} {c7 : Nat} {vu : Value} {pcs : List Value} (hT : ∀ b, T b → b < h3.size) (hps : Sl eParam T h3 (.slice a7 p.params.length c7) p.params)
    (hN : ∀ b, ¬ T b → N0 ≤ b) (hu : Sl eStr (fun b => T b ∧ N0 ≤ b) h3 vu (rise p.uses)) (hb2 : Blk h3 b2 pcs) (hpl : pcs.length = 6) (hb23 : b2 ≠ b3) (hTb2 : ¬ T b2)
    (hf : RSt eStr T h3 b3 [.string p.name] (.slice none 0 0) [.bool p.has, .string p.result, .string p.pc, vu] []) (hpn : p.params.length ≤ 10000)
    (hK : ∀ cs h', Ext T h3 h' → eSig.rep (fun b => N0 ≤ b ∧ b < h'.size) h' cs (sigOf p) → K (.agg cs.toArray) h') :
    VSem Tryz.prog fc31 (cd Tryz.f31 8) [(0, r0), (1, .pointer (some ⟨b1, 0, none⟩)), (2, .pointer (some ⟨b2, 0, none⟩)), (3, .pointer (some ⟨b3, 0, none⟩)), (19, .slice a7 p.params.length c7), (20, .int .i64 p.params.length), (21, .int .i64 0)] h3
      (vcBlock 0 (vcThen (fun r h => vcCode Tryz.prog fc31 (cd Tryz.f31 21) r h (vcPost Tryz.prog (Array.toList (Func.results Tryz.f31)) K X)) (vcPost Tryz.prog (Array.toList (Func.results Tryz.f31)) K X))) := by
  obtain ⟨au, cu, rfl, _⟩ := hu.form
  have hb2lt := hb2.lt
  refine loop_sem mixed (α := Nat) (fun x => [(2, .pointer (some ⟨b2, 0, none⟩)), (3, .pointer (some ⟨b3, 0, none⟩)), (19, .slice a7 p.params.length c7), (20, .int .i64 p.params.length), (21, .int .i64 x)])
    (fun x h' => x ≤ p.params.length ∧ Ext (fun b => T b ∨ b = b2) h3 h' ∧ ∃ l, RSt eStr T h' b3 [.string p.name] l [.bool p.has, .string p.result, .string p.pc, .slice au (rise p.uses).length cu] ((p.params.take x).map fun i => i.label) ∧ blkOf l ≠ some b2)
    (fun x _ => p.params.length - x) 0 (by kernel_rfl) ⟨rfl, rfl, rfl, rfl, rfl, trivial⟩ ⟨Nat.zero_le _, Ext.rfl, _, (by simpa using hf), (fun h => by cases h)⟩ ?_
  rintro i h' ⟨hi, he, l, hf, hl2⟩
  have heT : Ext T h3 h' := he.mono fun b hb => .inl hb
  have hS2 : ∀ b, T b → b < h'.size := fun b hb => Nat.lt_of_lt_of_le (hT b hb) he.size
  obtain ⟨la, lc, rfl⟩ := hf.form
  refine Wrap.mk ?_; refine kmp (B := iteB (decide ((↑i : Int) < (↑(List.length (Proc.params p)) : Int))) (∃ (b : Nat), ∃ (o : Nat), ∃ (j : Nat), a7 = some (Addr.mk b o none) ∧ (↑i : Int) = (↑j : Int) ∧ j < List.length (Proc.params p) ∧ ∃ (x : ByteArray), cellAt h' b (o + j * 3) = some (Value.string x) ∧ ∃ (x_1 : ByteArray), cellAt h' b (o + j * 3 + 1) = some (Value.string x_1) ∧ ∃ (x_2 : Int), cellAt h' b (o + j * 3 + 1 + 1) = some (Value.int IntKind.i64 x_2) ∧ ∀ (b : Nat) (h'_1 : Array Obj), b = Array.size h' → h'_1 = Array.push h' (Obj.cells #[Value.string (ByteArray.mk #[]), Value.string (ByteArray.mk #[]), Value.int IntKind.i64 0] 120) → Writable h'_1 b 0 3 ∧ ∀ (h' : Heap), h' = setCells h'_1 b 0 [Value.string x, Value.string x_1, Value.int IntKind.i64 x_2] → ∃ (a : Option Addr), ∃ (n : Nat), ∃ (c : Nat), cellAt h' b3 1 = some (Value.slice a n c) ∧ ∃ (x : ByteArray), cellAt h' b 1 = some (Value.string x) ∧ ∀ (b : Nat) (h'_2 : Array Obj), b = Array.size h' → h'_2 = Array.push h' (Obj.cells #[Value.string x] 9) → AppK 9 1 16 [Value.string (ByteArray.mk #[])] (Value.slice a n c) (Value.slice (some (Addr.mk b 0 none)) 1 1) h'_2 fun (a : Option Addr) (n c : Nat) (h : Heap) => Writable h b3 1 1 ∧ ∀ (h' : Heap), h' = setCells h b3 1 [Value.slice a n c] → ∃ (n : Int), Wr IntKind.i64 ((↑i : Int) + 1) n ∧ ∃ (x' : Nat), (Value.pointer (some (Addr.mk b2 0 none)) = Value.pointer (some (Addr.mk b2 0 none)) ∧ Value.pointer (some (Addr.mk b3 0 none)) = Value.pointer (some (Addr.mk b3 0 none)) ∧ Value.slice a7 (List.length (Proc.params p)) c7 = Value.slice a7 (List.length (Proc.params p)) c7 ∧ Value.int IntKind.i64 (↑(List.length (Proc.params p)) : Int) = Value.int IntKind.i64 (↑(List.length (Proc.params p)) : Int) ∧ Value.int IntKind.i64 n = Value.int IntKind.i64 (↑x' : Int) ∧ True) ∧ (x' ≤ List.length (Proc.params p) ∧ Ext (fun (b : Nat) => T b ∨ b = b2) h3 h' ∧ ∃ (l : Value), RSt eStr T h' b3 [Value.string (Proc.name p)] l [Value.bool (Proc.has p), Value.string (Proc.result p), Value.string (Proc.pc p), Value.slice au (List.length (rise (Proc.uses p))) cu] (List.map (fun (i : Param) => Param.label i) (List.take x' (Proc.params p))) ∧ blkOf l ≠ some b2) ∧ List.length (Proc.params p) - x' < List.length (Proc.params p) - i) (∃ (x : ByteArray), cellAt h' b3 0 = some (Value.string x) ∧ ∃ (a : Option Addr), ∃ (n : Nat), ∃ (c : Nat), cellAt h' b3 1 = some (Value.slice a n c) ∧ ∃ (x_1 : Bool), cellAt h' b3 2 = some (Value.bool x_1) ∧ ∃ (x_2 : ByteArray), cellAt h' b3 3 = some (Value.string x_2) ∧ ∃ (x_3 : ByteArray), cellAt h' b3 4 = some (Value.string x_3) ∧ ∃ (a_1 : Option Addr), ∃ (n_1 : Nat), ∃ (c_1 : Nat), cellAt h' b3 5 = some (Value.slice a_1 n_1 c_1) ∧ Writable h' b2 0 6 ∧ ∀ (h'_1 : Heap), h'_1 = setCells h' b2 0 [Value.string x, Value.slice a n c, Value.bool x_1, Value.string x_2, Value.string x_3, Value.slice a_1 n_1 c_1] → ∃ (x : ByteArray), cellAt h'_1 b2 0 = some (Value.string x) ∧ ∃ (a : Option Addr), ∃ (n : Nat), ∃ (c : Nat), cellAt h'_1 b2 1 = some (Value.slice a n c) ∧ ∃ (x_4 : Bool), cellAt h'_1 b2 2 = some (Value.bool x_4) ∧ ∃ (x_5 : ByteArray), cellAt h'_1 b2 3 = some (Value.string x_5) ∧ ∃ (x_6 : ByteArray), cellAt h'_1 b2 4 = some (Value.string x_6) ∧ ∃ (a_2 : Option Addr), ∃ (n_2 : Nat), ∃ (c_2 : Nat), cellAt h'_1 b2 5 = some (Value.slice a_2 n_2 c_2) ∧ K (Value.agg #[Value.string x, Value.slice a n c, Value.bool x_4, Value.string x_5, Value.string x_6, Value.slice a_2 n_2 c_2]) h'_1)) (by kernel_rfl) ?_
  refine iteB_in (fun hlt => ?_) (fun hge => ?_)
  · have hlt : i < p.params.length := by simpa using hlt
    obtain ⟨b, o, rfl, hb, k0, k1, k2⟩ := (hps.ext heT).atParam hlt
    refine ⟨b, o, i, rfl, rfl, hlt, _, k0, _, k1, _, k2, box_then rfl rfl fun h4 hb4 e4 hs4 => ?_⟩
    have hf4 := hf.extA hS2 e4
    have hS4 : ∀ b, T b → b < h4.size := fun b hb => by have := hS2 b hb; omega
    refine ⟨la, _, lc, blk_cell hf4.blk rfl, _, blk_cell hb4 rfl, ?_⟩
    refine hf4.own.app hS4 (css := [[.string p.params[i].label]]) (ys := [p.params[i].label]) ⟨rfl, trivial⟩ rfl rfl rfl (by simp; omega) (by simp; omega) fun a5 n5 c5 h5 hn5 g => ?_
    obtain ⟨hw, hf5, e5, hbl⟩ := hf4.told g
    refine ⟨hw, ?_⟩
    rintro h6 rfl
    have e45 : Ext (fun b => T b ∨ b = b2) h' (setCells h5 b3 [Value.string p.name].length [.slice a5 n5 c5]) := by
      refine (e4.mono ?_).trans (e5.mono ?_)
      · rintro b (hb | rfl)
        · exact hS2 b hb
        · exact Nat.lt_of_lt_of_le hb2lt he.size
      · rintro b (hb | rfl)
        · exact ⟨hS4 b hb, fun e => hf.np (e ▸ hb), fun e => (hf.own.fresh e).1 hb⟩
        · exact ⟨by have := he.size; omega, hb23, hl2⟩
    refine ⟨_, wrI (by omega) (by omega), i + 1, ⟨rfl, rfl, rfl, rfl, rfl, trivial⟩, ⟨hlt, he.trans e45, _, by rw [map_take_succ _ _ _ hlt]; exact hf5, fun h7 => ?_⟩, by omega⟩
    rcases hbl b2 h7 with h8 | h8
    · exact hl2 h8
    · have := he.size; omega
  · obtain rfl : i = p.params.length := by simp at hge; omega
    rw [List.take_length] at hf hl2
    generalize hps' : p.params.map (fun i => i.label) = ls at *
    have hb2' := hb2.ext he (.inr rfl)
    have hu' := hu.ext (heT.mono fun b hb => hb.1)
    refine ⟨_, blk_cell hf.blk rfl, _, _, _, blk_cell hf.blk rfl, _, blk_cell hf.blk rfl, _, blk_cell hf.blk rfl, _, blk_cell hf.blk rfl, _, _, _, blk_cell hf.blk rfl, hb2'.can (by omega), ?_⟩
    rintro h6 rfl
    have hset := hb2'.set (o := 0) (us := [.string p.name, .slice la ls.length lc, .bool p.has, .string p.result, .string p.pc, .slice au (rise p.uses).length cu]) (by simp; omega)
    rw [List.take_zero, List.nil_append, List.drop_of_length_le (by simp; omega), List.append_nil] at hset
    refine ⟨_, blk_cell hset rfl, _, _, _, blk_cell hset rfl, _, blk_cell hset rfl, _, blk_cell hset rfl, _, blk_cell hset rfl, _, _, _, blk_cell hset rfl, ?_⟩
    have e6 : ∀ U : BS, ¬ U b2 → Ext U h' (setCells h' b2 0 [.string p.name, .slice la ls.length lc, .bool p.has, .string p.result, .string p.pc, .slice au (rise p.uses).length cu]) := fun U hU => Ext.set hU
    refine hK [.string p.name, .slice la ls.length lc, .bool p.has, .string p.result, .string p.pc, .slice au (rise p.uses).length cu] _ (heT.trans (e6 T hTb2)) ⟨.slice la ls.length lc, .slice au (rise p.uses).length cu, rfl, ?_, ?_⟩
    · have hn2 : ∀ b, blkOf (.slice la ls.length lc) = some b → N0 ≤ b ∧ b < h'.size ∧ b ≠ b2 := fun b hb => ⟨hN b (hf.own.fresh hb).1, (hf.own.fresh hb).2, fun e => hl2 (e ▸ hb)⟩
      have := (hf.own.lessS (T := fun _ => False) fun _ _ h => h).sl (S' := fun b => N0 ≤ b ∧ b < h'.size ∧ b ≠ b2) (fun _ h => h.elim) hn2
      rw [show (sigOf p).params = ls from hps']
      exact (this.ext (e6 _ fun h => h.2.2 rfl)).mono fun b hb => ⟨hb.1, by rw [size_setCells]; exact hb.2.1⟩
    · exact (hu'.ext (e6 _ fun h => hTb2 h.1)).mono fun b hb => ⟨hb.2, by rw [size_setCells]; exact hS2 b hb.1⟩

theorem sig_spec {cs : List Value} {p : Proc} (hp : eProc.rep S h cs p) (hS : ∀ b, S b → b < h.size) (hpn : p.params.length ≤ 10000) (hun : p.uses.length ≤ 100000000)
    (hK : ∀ cs h', Ext (Al h) h h' → eSig.rep (New h h') h' cs (sigOf p) → K (.agg cs.toArray) h') :
    CallK Tryz.prog 31 [.agg cs.toArray] h K X := by
  obtain ⟨vp, vu, vb, rfl, hps, hus, hbd⟩ := hp
  obtain ⟨a1, c1, rfl, _⟩ := hps.form
  obtain ⟨a2, c2, rfl, _⟩ := hus.form
  obtain ⟨a3, c3, rfl, _⟩ := hbd.form
  refine callK_of_vc fc31 mixed Tryz.func31 ok31 (Nat.le_of_ble_eq_true rfl) ?_
  refine kmp (B := ∀ (b : Nat) (h' : Array Obj), b = Array.size h → h' = Array.push h (Obj.cells #[Value.string (Proc.name p), Value.slice a1 (List.length (Proc.params p)) c1, Value.bool (Proc.has p), Value.string (Proc.result p), Value.string (Proc.pc p), Value.slice a2 (List.length (Proc.uses p)) c2, Value.slice a3 (List.length (Proc.body p)) c3, Value.int IntKind.i64 (Proc.at_ p)] 52) → ∀ (b_1 : Nat) (h'_1 : Array Obj), b_1 = Array.size h' → h'_1 = Array.push h' (Obj.cells #[Value.string (ByteArray.mk #[]), Value.slice none 0 0, Value.bool false, Value.string (ByteArray.mk #[]), Value.string (ByteArray.mk #[]), Value.slice none 0 0] 82) → ∃ (x : ByteArray), cellAt h'_1 b 0 = some (Value.string x) ∧ ∃ (x_1 : Bool), cellAt h'_1 b 2 = some (Value.bool x_1) ∧ ∃ (x_2 : ByteArray), cellAt h'_1 b 3 = some (Value.string x_2) ∧ ∃ (x_3 : ByteArray), cellAt h'_1 b 4 = some (Value.string x_3) ∧ ∃ (a : Option Addr), ∃ (n : Nat), ∃ (c : Nat), cellAt h'_1 b 5 = some (Value.slice a n c) ∧ (CallK Tryz.prog 20 [Value.slice a n c] h'_1 (fun (v : Value) (h : Heap) => ∃ (a : Option Addr), ∃ (n : Nat), ∃ (c : Nat), v = Value.slice a n c ∧ (∃ (x : ByteArray), cellAt h b 4 = some (Value.string x) ∧ Value.string x = Value.string x_3) ∧ (∃ (x : ByteArray), cellAt h b 3 = some (Value.string x) ∧ Value.string x = Value.string x_2) ∧ (∃ (x : Bool), cellAt h b 2 = some (Value.bool x) ∧ Value.bool x = Value.bool x_1) ∧ (∃ (x_4 : ByteArray), cellAt h b 0 = some (Value.string x_4) ∧ Value.string x_4 = Value.string x) ∧ ∀ (b_2 : Nat) (h' : Array Obj), b_2 = Array.size h → h' = Array.push h (Obj.cells #[Value.string (ByteArray.mk #[]), Value.slice none 0 0, Value.bool false, Value.string (ByteArray.mk #[]), Value.string (ByteArray.mk #[]), Value.slice none 0 0] 82) → (∃ (x : ByteArray), cellAt h' b 4 = some (Value.string x) ∧ Value.string x = Value.string x_3) ∧ (∃ (x : ByteArray), cellAt h' b 3 = some (Value.string x) ∧ Value.string x = Value.string x_2) ∧ (∃ (x : Bool), cellAt h' b 2 = some (Value.bool x) ∧ Value.bool x = Value.bool x_1) ∧ (∃ (x_4 : ByteArray), cellAt h' b 0 = some (Value.string x_4) ∧ Value.string x_4 = Value.string x) ∧ Writable h' b_2 0 6 ∧ ∀ (h'_2 : Heap), h'_2 = setCells h' b_2 0 [Value.string x, Value.slice none 0 0, Value.bool x_1, Value.string x_2, Value.string x_3, Value.slice a n c] → ∃ (a : Option Addr), ∃ (n : Nat), ∃ (c : Nat), cellAt h'_2 b 1 = some (Value.slice a n c) ∧ VSem Tryz.prog fc31 (cd Tryz.f31 8) [(0, Value.agg #[Value.string (Proc.name p), Value.slice a1 (List.length (Proc.params p)) c1, Value.bool (Proc.has p), Value.string (Proc.result p), Value.string (Proc.pc p), Value.slice a2 (List.length (Proc.uses p)) c2, Value.slice a3 (List.length (Proc.body p)) c3, Value.int IntKind.i64 (Proc.at_ p)]), (1, Value.pointer (some (Addr.mk b 0 none))), (2, Value.pointer (some (Addr.mk b_1 0 none))), (3, Value.pointer (some (Addr.mk b_2 0 none))), (19, Value.slice a n c), (20, Value.int IntKind.i64 (↑n : Int)), (21, Value.int IntKind.i64 0)] h'_2 (vcBlock 0 (vcThen (fun (r : Regs) (h : Heap) => vcCode Tryz.prog fc31 (cd Tryz.f31 21) r h (vcPost Tryz.prog (Array.toList (Func.results Tryz.f31)) K X)) (vcPost Tryz.prog (Array.toList (Func.results Tryz.f31)) K X)))) fun (ch : List PanicEntry) (h : Heap) => X ch h) ∧ ∀ (b_2 : Nat) (h' : Array Obj), b_2 = Array.size h'_1 → h' = Array.push h'_1 (Obj.cells #[Value.string (ByteArray.mk #[]), Value.slice none 0 0, Value.bool false, Value.string (ByteArray.mk #[]), Value.string (ByteArray.mk #[]), Value.slice none 0 0] 82) → (∃ (a_3 : Option Addr), ∃ (n_1 : Nat), ∃ (c_1 : Nat), cellAt h' b 5 = some (Value.slice a_3 n_1 c_1) ∧ Value.slice a_3 n_1 c_1 = Value.slice a n c) ∧ (∃ (x : ByteArray), cellAt h' b 4 = some (Value.string x) ∧ Value.string x = Value.string x_3) ∧ (∃ (x : ByteArray), cellAt h' b 3 = some (Value.string x) ∧ Value.string x = Value.string x_2) ∧ (∃ (x : Bool), cellAt h' b 2 = some (Value.bool x) ∧ Value.bool x = Value.bool x_1) ∧ (∃ (x_4 : ByteArray), cellAt h' b 0 = some (Value.string x_4) ∧ Value.string x_4 = Value.string x) ∧ CallK Tryz.prog 20 [Value.slice a n c] h' (fun (v : Value) (h : Heap) => ∃ (a : Option Addr), ∃ (n : Nat), ∃ (c : Nat), v = Value.slice a n c ∧ (∃ (x : ByteArray), cellAt h b 4 = some (Value.string x) ∧ Value.string x = Value.string x_3) ∧ (∃ (x : ByteArray), cellAt h b 3 = some (Value.string x) ∧ Value.string x = Value.string x_2) ∧ (∃ (x : Bool), cellAt h b 2 = some (Value.bool x) ∧ Value.bool x = Value.bool x_1) ∧ (∃ (x_4 : ByteArray), cellAt h b 0 = some (Value.string x_4) ∧ Value.string x_4 = Value.string x) ∧ Writable h b_2 0 6 ∧ ∀ (h' : Heap), h' = setCells h b_2 0 [Value.string x, Value.slice none 0 0, Value.bool x_1, Value.string x_2, Value.string x_3, Value.slice a n c] → ∃ (a : Option Addr), ∃ (n : Nat), ∃ (c : Nat), cellAt h' b 1 = some (Value.slice a n c) ∧ VSem Tryz.prog fc31 (cd Tryz.f31 8) [(0, Value.agg #[Value.string (Proc.name p), Value.slice a1 (List.length (Proc.params p)) c1, Value.bool (Proc.has p), Value.string (Proc.result p), Value.string (Proc.pc p), Value.slice a2 (List.length (Proc.uses p)) c2, Value.slice a3 (List.length (Proc.body p)) c3, Value.int IntKind.i64 (Proc.at_ p)]), (1, Value.pointer (some (Addr.mk b 0 none))), (2, Value.pointer (some (Addr.mk b_1 0 none))), (3, Value.pointer (some (Addr.mk b_2 0 none))), (19, Value.slice a n c), (20, Value.int IntKind.i64 (↑n : Int)), (21, Value.int IntKind.i64 0)] h' (vcBlock 0 (vcThen (fun (r : Regs) (h : Heap) => vcCode Tryz.prog fc31 (cd Tryz.f31 21) r h (vcPost Tryz.prog (Array.toList (Func.results Tryz.f31)) K X)) (vcPost Tryz.prog (Array.toList (Func.results Tryz.f31)) K X)))) fun (ch : List PanicEntry) (h : Heap) => X ch h) (by kernel_rfl) ?_ -- ENTERED
  rintro b1 h1 rfl rfl b2 h2 rfl rfl
  generalize hh1 : h.push (.cells #[Value.string p.name, .slice a1 p.params.length c1, .bool p.has, .string p.result, .string p.pc, .slice a2 p.uses.length c2, .slice a3 p.body.length c3, .int .i64 p.at_] 52 (0, 0)) = h1
  have e1 : Ext (Al h) h h1 := by subst hh1; exact Ext.pushA
  have hs1 : h1.size = h.size + 1 := by subst hh1; simp
  have hb1 : Blk h1 h.size [.string p.name, .slice a1 p.params.length c1, .bool p.has, .string p.result, .string p.pc, .slice a2 p.uses.length c2, .slice a3 p.body.length c3, .int .i64 p.at_] := by subst hh1; exact Blk.push
  clear hh1
  generalize hh2 : h1.push (.cells #[Value.string (ByteArray.mk #[]), .slice none 0 0, .bool false, .string (ByteArray.mk #[]), .string (ByteArray.mk #[]), .slice none 0 0] 82 (0, 0)) = h2
  have e2 : Ext (Al h1) h1 h2 := by subst hh2; exact Ext.pushA
  have hs2 : h2.size = h1.size + 1 := by subst hh2; simp
  have hb2 : Blk h2 h1.size [.string (ByteArray.mk #[]), .slice none 0 0, .bool false, .string (ByteArray.mk #[]), .string (ByteArray.mk #[]), .slice none 0 0] := by subst hh2; exact Blk.push
  clear hh2
  have e12 : Ext (Al h) h h2 := e1.trans (e2.al e1.size)
  replace hb1 := hb1.ext e2 hb1.lt
  refine ⟨_, blk_cell hb1 rfl, _, blk_cell hb1 rfl, _, blk_cell hb1 rfl, _, blk_cell hb1 rfl, _, _, _, blk_cell hb1 rfl, ?_, ?_⟩
  · -- the call first
    have hus2 : Sl eStr (Al h2) h2 (.slice a2 p.uses.length c2) p.uses := (hus.ext (e12.mono hS)).mono fun b hb => by have := hS b hb; have := e12.size; show b < h2.size; omega
    refine rising_spec hus2 hun fun au nu cu h3 e3 hu3 => ⟨au, nu, cu, rfl, ?_⟩
    have hb13 := hb1.ext e3 hb1.lt
    refine ⟨⟨_, blk_cell hb13 rfl, rfl⟩, ⟨_, blk_cell hb13 rfl, rfl⟩, ⟨_, blk_cell hb13 rfl, rfl⟩, ⟨_, blk_cell hb13 rfl, rfl⟩, ?_⟩
    rintro b3 h4 rfl hh4
    have e4 : Ext (Al h3) h3 h4 := by rw [hh4]; exact Ext.pushA
    have hb3 : Blk h4 h3.size [.string (ByteArray.mk #[]), .slice none 0 0, .bool false, .string (ByteArray.mk #[]), .string (ByteArray.mk #[]), .slice none 0 0] := by rw [hh4]; exact Blk.push
    clear hh4
    have hb14 := hb13.ext e4 hb13.lt
    refine ⟨⟨_, blk_cell hb14 rfl, rfl⟩, ⟨_, blk_cell hb14 rfl, rfl⟩, ⟨_, blk_cell hb14 rfl, rfl⟩, ⟨_, blk_cell hb14 rfl, rfl⟩, hb3.can (by simp), ?_⟩
    rintro h5 hh5
    have e5 : Ext (Al h3) h4 h5 := by rw [hh5]; exact Ext.set fun h => Nat.lt_irrefl _ h
    have hb3' : Blk h5 h3.size [.string p.name, .slice none 0 0, .bool p.has, .string p.result, .string p.pc, .slice au nu cu] := by
      rw [hh5]; exact hb3.set (o := 0) (us := [_, _, _, _, _, _]) (by simp)
    clear hh5 hb3
    have e35 := e4.trans e5
    have hb15 := hb13.ext e35 hb13.lt
    refine ⟨_, _, _, blk_cell hb15 rfl, ?_⟩
    have hs3 := e3.size
    have hs5 := e35.size
    have hb35 := hb3'.lt
    refine sig_loop (N0 := h.size) (T := fun b => b < h3.size ∧ b ≠ h1.size) (fun b hb => by omega) ?_ (fun b hb => by omega) ?_ (hb2.ext (e3.trans (e35.al hs3)) hb2.lt) rfl (by omega) (fun h => h.2 rfl) ⟨hb3', Own.nil, fun h => by omega, fun h => by cases h⟩ hpn fun cs h6 e6 hr => hK cs h6 ?_ hr
    · exact (hps.ext (((e12.trans (e3.al e12.size)).trans (e35.al (by omega))).mono hS)).mono fun b hb => by have := hS b hb; omega
    · exact (hu3.ext (e35.mono fun b hb => hb.2)).mono fun b hb => ⟨⟨hb.2, by have := hb.1; omega⟩, by have := hb.1; omega⟩
    · exact ((e12.trans (e3.al e12.size)).trans (e35.al (by omega))).trans (e6.mono fun b hb => by have : b < h.size := hb; omega)
  · -- the struct first
    rintro b3 h4 rfl hh4
    have e4 : Ext (Al h2) h2 h4 := by rw [hh4]; exact Ext.pushA
    have hs4 : h4.size = h2.size + 1 := by rw [hh4]; simp
    have hb3 : Blk h4 h2.size [.string (ByteArray.mk #[]), .slice none 0 0, .bool false, .string (ByteArray.mk #[]), .string (ByteArray.mk #[]), .slice none 0 0] := by rw [hh4]; exact Blk.push
    clear hh4
    have hb14 := hb1.ext e4 hb1.lt
    refine ⟨⟨_, _, _, blk_cell hb14 rfl, rfl⟩, ⟨_, blk_cell hb14 rfl, rfl⟩, ⟨_, blk_cell hb14 rfl, rfl⟩, ⟨_, blk_cell hb14 rfl, rfl⟩, ⟨_, blk_cell hb14 rfl, rfl⟩, ?_⟩
    have e14 := e12.trans (e4.al e12.size)
    have hus2 : Sl eStr (Al h4) h4 (.slice a2 p.uses.length c2) p.uses := (hus.ext (e14.mono hS)).mono fun b hb => by have := hS b hb; have := e14.size; show b < h4.size; omega
    refine rising_spec hus2 hun fun au nu cu h3 e3 hu3 => ⟨au, nu, cu, rfl, ?_⟩
    have hb13 := hb14.ext e3 hb14.lt
    have hb33 := hb3.ext e3 hb3.lt
    refine ⟨⟨_, blk_cell hb13 rfl, rfl⟩, ⟨_, blk_cell hb13 rfl, rfl⟩, ⟨_, blk_cell hb13 rfl, rfl⟩, ⟨_, blk_cell hb13 rfl, rfl⟩, hb33.can (by simp), ?_⟩
    rintro h5 hh5
    have e5 : Ext (fun b => b ≠ h2.size) h3 h5 := by rw [hh5]; exact Ext.set fun h => h rfl
    have hb3' : Blk h5 h2.size [.string p.name, .slice none 0 0, .bool p.has, .string p.result, .string p.pc, .slice au nu cu] := by
      rw [hh5]; exact hb33.set (o := 0) (us := [_, _, _, _, _, _]) (by simp)
    clear hh5 hb33
    have hb1lt := hb1.lt
    have hb15 := hb13.ext e5 (by omega)
    refine ⟨_, _, _, blk_cell hb15 rfl, ?_⟩
    have hs3 := e3.size
    have hs5 := e5.size
    have e15 : Ext (Al h) h h5 := (e14.trans (e3.al e14.size)).trans (e5.mono fun b hb => by have : b < h.size := hb; omega)
    have hb2lt := hb2.lt
    refine sig_loop (N0 := h.size) (T := fun b => b < h3.size ∧ b ≠ h1.size ∧ b ≠ h2.size) (fun b hb => by omega) ?_ (fun b hb => by omega) ?_ (((hb2.ext e4 hb2lt).ext e3 (by show _ < _; omega)).ext e5 (by omega)) rfl (by omega) (fun h => h.2.1 rfl) ⟨hb3', Own.nil, fun h => h.2.2 rfl, fun h => by cases h⟩ hpn fun cs h6 e6 hr => hK cs h6 ?_ hr
    · exact (hps.ext (e15.mono hS)).mono fun b hb => by have := hS b hb; omega
    · exact (hu3.ext (e5.mono fun b hb => by have := hb.1; omega)).mono fun b hb => ⟨⟨hb.2, by have := hb.1; omega, by have := hb.1; omega⟩, by have := hb.1; omega⟩
    · exact e15.trans (e6.mono fun b hb => by have : b < h.size := hb; omega)

end Go.Proofs.YtdnlhicbjhgjiaaGreatDoor
