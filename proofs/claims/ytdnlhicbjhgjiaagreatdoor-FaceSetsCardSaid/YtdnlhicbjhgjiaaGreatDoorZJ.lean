/- What each law asks at its end. No condition. -/
import Derived.Test.YtdnlhicbjhgjiaaGreatDoorZI
namespace Go.Proofs.YtdnlhicbjhgjiaaGreatDoor
open Go Go.Vx
set_option maxRecDepth 100000

variable {S : BS} {K : Value → Heap → Prop} {X : List PanicEntry → Heap → Prop} {h : Heap}

theorem num_spec {n : Int} (hK : K (.int .i64 n) h) : CallK Tryz.prog 19 [.int .i64 n] h K X := by
  refine callK_of_vc fc19 mixed Tryz.func19 ok19 (Nat.le_of_ble_eq_true rfl) ?_
  refine kmp (B := K (Value.int IntKind.i64 n) h) (by kernel_rfl) ?_ -- ENTERED
  exact hK

def modM : Module := ⟨⟨#[109]⟩, 0, [], [], []⟩
def lat0 : Lattice := ⟨[], [], [], [], 0, 0⟩

theorem wrongs0 : wrongs modM lat0 = [] := rfl
theorem face0 : faceOf modM = ⟨[], []⟩ := by
  simp [faceOf, modM, sortN]

theorem text1 {h : Heap} {b : Nat} {s : ByteArray} (hb : Blk h b [.string s]) : Sl eStr (Al h) h (.slice (some ⟨b, 0, none⟩) 1 1) [s] :=
  Sl.of_blk (E := eStr) (xs := [s]) (css := [[.string s]]) (zs := []) hb ⟨rfl, trivial⟩ hb.lt (Nat.le_refl _)

theorem awake_spec (hK : ∀ h', Ext (Al h) h h' → K (.bool true) h') : CallK Tryz.prog 5 [] h K X := by
  refine callK_of_vc fc5 mixed Tryz.func5 ok5 (Nat.le_of_ble_eq_true rfl) ?_
  refine kmp (B := CallK Tryz.prog 13 [Value.agg #[Value.string (ByteArray.mk #[109]), Value.int IntKind.i64 0, Value.slice none 0 0, Value.slice none 0 0, Value.slice none 0 0], Value.agg #[Value.slice none 0 0, Value.slice none 0 0, Value.slice none 0 0, Value.slice none 0 0, Value.int IntKind.i64 0, Value.int IntKind.i64 0]] h (fun (v : Value) (h : Heap) => ∃ (a : Option Addr), ∃ (n : Nat), ∃ (c : Nat), ∃ (a_1 : Option Addr), ∃ (n_1 : Nat), ∃ (c_1 : Nat), ∃ (a_2 : Option Addr), ∃ (n_2 : Nat), ∃ (c_2 : Nat), v = Value.tuple #[Value.agg #[Value.slice a n c, Value.slice a_1 n_1 c_1], Value.slice a_2 n_2 c_2] ∧ ∀ (b : Nat) (h' : Array Obj), b = Array.size h → h' = Array.push h (Obj.cells #[Value.slice none 0 0, Value.slice none 0 0] 36) → Writable h' b 0 2 ∧ ∀ (h'_1 : Heap), h'_1 = setCells h' b 0 [Value.slice a n c, Value.slice a_1 n_1 c_1] → ∃ (a : Option Addr), ∃ (n : Nat), ∃ (c : Nat), cellAt h'_1 b 0 = some (Value.slice a n c) ∧ ∃ (a_5 : Option Addr), ∃ (n_3 : Nat), ∃ (c_3 : Nat), cellAt h'_1 b 1 = some (Value.slice a_5 n_3 c_3) ∧ CallK Tryz.prog 18 [Value.agg #[Value.slice a n c, Value.slice a_5 n_3 c_3]] h'_1 (fun (v : Value) (h : Heap) => ∃ (a : Option Addr), ∃ (n : Nat), ∃ (c : Nat), v = Value.slice a n c ∧ CallK Tryz.prog 17 [Value.slice a n c] h (fun (v : Value) (h : Heap) => ∃ (a : Option Addr), ∃ (n : Nat), ∃ (c : Nat), ∃ (a_6 : Option Addr), ∃ (n_4 : Nat), ∃ (c_4 : Nat), ∃ (x : Int), v = Value.tuple #[Value.agg #[Value.slice a n c, Value.slice a_6 n_4 c_4], Value.int IntKind.i64 x] ∧ ∀ (b_1 : Nat) (h' : Array Obj), b_1 = Array.size h → h' = Array.push h (Obj.cells #[Value.slice none 0 0, Value.slice none 0 0] 36) → Writable h' b_1 0 2 ∧ ∀ (h'_2 : Heap), h'_2 = setCells h' b_1 0 [Value.slice a n c, Value.slice a_6 n_4 c_4] → iteB ((↑n_2 : Int) == 0) (CallK Tryz.prog 19 [Value.int IntKind.i64 x] h'_2 (fun (v : Value) (h : Heap) => ∃ (x : Int), v = Value.int IntKind.i64 x ∧ iteB (x == 0) (∃ (a : Option Addr), ∃ (n : Nat), ∃ (c : Nat), cellAt h b_1 0 = some (Value.slice a n c) ∧ iteB ((↑n : Int) == 0) (∃ (a : Option Addr), ∃ (n : Nat), ∃ (c : Nat), cellAt h b 0 = some (Value.slice a n c) ∧ ∃ (a_9 : Option Addr), ∃ (n_5 : Nat), ∃ (c_5 : Nat), cellAt h b 1 = some (Value.slice a_9 n_5 c_5) ∧ CallK Tryz.prog 18 [Value.agg #[Value.slice a n c, Value.slice a_9 n_5 c_5]] h (fun (v : Value) (h : Heap) => ∃ (a : Option Addr), ∃ (n : Nat), ∃ (c : Nat), v = Value.slice a n c ∧ iteB ((↑n : Int) == 9) (∀ (b : Nat) (h' : Array Obj), b = Array.size h → h' = Array.push h (Obj.cells #[Value.string (ByteArray.mk #[97])] 9) → ∀ (b_2 : Nat) (h'_3 : Array Obj), b_2 = Array.size h' → h'_3 = Array.push h' (Obj.cells #[Value.string (ByteArray.mk #[98])] 9) → ∀ (b_3 : Nat) (h' : Array Obj), b_3 = Array.size h'_3 → h' = Array.push h'_3 (Obj.cells #[Value.string (ByteArray.mk #[97])] 9) → CallK Tryz.prog 6 [Value.slice (some (Addr.mk b_2 0 none)) 1 1, Value.slice (some (Addr.mk b_3 0 none)) 1 1] h' (fun (v : Value) (h : Heap) => ∃ (a : Option Addr), ∃ (n : Nat), ∃ (c : Nat), v = Value.slice a n c ∧ CallK Tryz.prog 10 [Value.slice (some (Addr.mk b 0 none)) 1 1, Value.slice a n c] h (fun (v : Value) (h : Heap) => ∃ (x : Bool), v = Value.bool x ∧ K (Value.bool x) h) fun (ch : List PanicEntry) (h : Heap) => X ch h) fun (ch : List PanicEntry) (h : Heap) => X ch h) (K (Value.bool false) h)) fun (ch : List PanicEntry) (h : Heap) => X ch h) (K (Value.bool false) h)) (K (Value.bool false) h)) fun (ch : List PanicEntry) (h : Heap) => X ch h) (K (Value.bool false) h'_2)) fun (ch : List PanicEntry) (h : Heap) => X ch h) fun (ch : List PanicEntry) (h : Heap) => X ch h) fun (ch : List PanicEntry) (h : Heap) => X ch h) (by kernel_rfl) ?_ -- ENTERED
  refine of_spec (S := fun _ => False) (m := modM) (t := lat0) ⟨_, _, _, rfl, Sl.nil, Sl.nil, Sl.nil⟩ ⟨_, _, _, _, rfl, Sl.nil, Sl.nil, Sl.nil, Sl.nil⟩ (fun _ h => h.elim) ⟨by decide, by decide, by decide, fun q hq => by cases hq⟩ (by decide) fun fc dv h1 e1 hfc hdv => ?_
  rw [if_pos wrongs0, face0] at hfc
  rw [wrongs0] at hdv
  have s1 := e1.size
  obtain ⟨vv, vp, rfl, sv, sp⟩ := hfc
  obtain ⟨a1, c1, rfl, _⟩ := sv.form
  obtain ⟨a2, c2, rfl, _⟩ := sp.form
  obtain ⟨a3, c3, rfl, _⟩ := hdv.form
  refine ⟨_, _, _, _, _, _, _, _, _, rfl, box_then rfl rfl fun h2 hb2 e2 s2 => ?_⟩
  have e02 : Ext (Al h) h h2 := e1.trans (e2.al s1)
  refine ⟨_, _, _, blk_cell hb2 rfl, _, _, _, blk_cell hb2 rfl, fenc0_spec rfl rfl fun v3 h3 e3 hl3 => ?_⟩
  have s3 := e3.size
  have hb23 := hb2.ext e3 hb2.lt
  obtain ⟨a4, c4, rfl, _⟩ := hl3.form
  refine ⟨_, _, _, rfl, fdec0_spec hl3 (fun b hb => hb.2) fun h4 e4 => ⟨_, _, _, _, _, _, _, rfl, box_then rfl rfl fun h5 hb5 e5 s5 => iteB_in (fun _ => ?_) (fun h => by simp at h)⟩⟩
  have s4 := e4.size
  have e05 : Ext (Al h) h h5 := ((e02.trans (e3.al (by omega))).trans (e4.al (by omega))).trans (e5.al (by omega))
  have hb25 := ((hb23.ext e4 hb23.lt).ext e5 (by have := hb23.lt; show _ < _; omega))
  refine num_spec ⟨_, rfl, iteB_in (fun _ => ?_) (fun h => by simp at h)⟩
  refine ⟨_, _, _, blk_cell hb5 rfl, iteB_in (fun _ => ?_) (fun h => by simp at h)⟩
  refine ⟨_, _, _, blk_cell hb25 rfl, _, _, _, blk_cell hb25 rfl, fenc0_spec rfl rfl fun v6 h6 e6 hl6 => ?_⟩
  have s6 := e6.size
  obtain ⟨a6, c6, rfl, _⟩ := hl6.form
  refine ⟨_, _, _, rfl, iteB_in (fun _ => ?_) (fun h => by simp at h)⟩
  rintro b h7 rfl hh7
  have e7 : Ext (Al h6) h6 h7 := by rw [hh7]; exact Ext.pushA
  have s7 : h7.size = h6.size + 1 := by rw [hh7]; simp
  have hb7 : Blk h7 h6.size [.string ⟨#[97]⟩] := by rw [hh7]; exact Blk.push
  clear hh7
  rintro b h8 rfl hh8
  have e8 : Ext (Al h7) h7 h8 := by rw [hh8]; exact Ext.pushA
  have s8 : h8.size = h7.size + 1 := by rw [hh8]; simp
  have hb8 : Blk h8 h7.size [.string ⟨#[98]⟩] := by rw [hh8]; exact Blk.push
  clear hh8
  rintro b h9 rfl hh9
  have e9 : Ext (Al h8) h8 h9 := by rw [hh9]; exact Ext.pushA
  have s9 : h9.size = h8.size + 1 := by rw [hh9]; simp
  have hb9 : Blk h9 h8.size [.string ⟨#[97]⟩] := by rw [hh9]; exact Blk.push
  clear hh9
  have hb89 := hb8.ext e9 hb8.lt
  have hb79 := (hb7.ext e8 hb7.lt).ext e9 (by have := hb7.lt; show _ < _; omega)
  refine funion_spec (text1 hb89) (text1 hb9) (by decide) (by decide) fun a n c h10 e10 hl10 => ⟨_, _, _, rfl, ?_⟩
  refine fwithin_spec (text1 (hb79.ext e10 hb79.lt)) hl10.newAl (by decide) (by decide) fun h11 e11 => ⟨_, rfl, ?_⟩
  have s10 := e10.size
  rw [show [⟨#[97]⟩].all (memB (rise ([⟨#[98]⟩] ++ [⟨#[97]⟩]))) = true from by decide]
  exact hK _ ((((((e05.trans (e6.al (by omega))).trans (e7.al (by omega))).trans (e8.al (by omega))).trans (e9.al (by omega))).trans (e10.al (by omega))).trans (e11.al (by omega)))

end Go.Proofs.YtdnlhicbjhgjiaaGreatDoor
