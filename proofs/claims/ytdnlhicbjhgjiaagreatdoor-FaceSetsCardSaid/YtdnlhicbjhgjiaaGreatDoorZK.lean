/- The law FaceSets. No condition. -/
import Derived.Test.YtdnlhicbjhgjiaaGreatDoorZJ
namespace Go.Proofs.YtdnlhicbjhgjiaaGreatDoor
open Go Go.Vx
set_option maxRecDepth 100000

variable {S : BS} {K : Value → Heap → Prop} {X : List PanicEntry → Heap → Prop} {h : Heap}

theorem sets_spec {v w : Value} {xs ys : List ByteArray} (hl : Sl eStr (Al h) h v xs) (hq : Sl eStr (Al h) h w ys) (hK : ∀ h', Ext (Al h) h h' → K (.bool true) h') : CallK Tryz.prog 3 [v, w] h K X := by
  obtain ⟨a, c, rfl, _⟩ := hl.form
  obtain ⟨b, d, rfl, _⟩ := hq.form
  refine callK_of_vc fc3 mixed Tryz.func3 ok3 (Nat.le_of_ble_eq_true rfl) ?_
  refine kmp (B := iteB (decide ((↑(List.length xs) : Int) > 60)) (CallK Tryz.prog 5 [] h (fun (v : Value) (h : Heap) => ∃ (x : Bool), v = Value.bool x ∧ K (Value.bool x) h) fun (ch : List PanicEntry) (h : Heap) => X ch h) (iteB (decide ((↑(List.length ys) : Int) > 60)) (CallK Tryz.prog 5 [] h (fun (v : Value) (h : Heap) => ∃ (x : Bool), v = Value.bool x ∧ K (Value.bool x) h) fun (ch : List PanicEntry) (h : Heap) => X ch h) (CallK Tryz.prog 6 [Value.slice a (List.length xs) c, Value.slice b (List.length ys) d] h (fun (v : Value) (h : Heap) => ∃ (a_1 : Option Addr), ∃ (n : Nat), ∃ (c_1 : Nat), v = Value.slice a_1 n c_1 ∧ VSem Tryz.prog fc3 (cd Tryz.f3 16) [(0, Value.slice a (List.length xs) c), (1, Value.slice b (List.length ys) d), (4, Value.bool false), (5, Value.slice a_1 n c_1), (6, Value.int IntKind.i64 1), (15, Value.bool (decide ((↑(List.length ys) : Int) > 60)))] h (vcBlock 0 (vcThen (fun (r : Regs) (h : Heap) => vcCode Tryz.prog fc3 (cd Tryz.f3 33) r h (vcPost Tryz.prog (Array.toList (Func.results Tryz.f3)) K X)) (vcPost Tryz.prog (Array.toList (Func.results Tryz.f3)) K X)))) fun (ch : List PanicEntry) (h : Heap) => X ch h))) (by kernel_rfl) ?_ -- ENTERED
  refine iteB_in (fun _ => awake_spec fun h' e' => ⟨_, rfl, hK h' e'⟩) fun hx => ?_
  refine iteB_in (fun _ => awake_spec fun h' e' => ⟨_, rfl, hK h' e'⟩) fun hy => ?_
  have hx : xs.length ≤ 60 := by simp at hx; omega
  have hy : ys.length ≤ 60 := by simp at hy; omega
  refine funion_spec hl hq (by omega) (by omega) fun au nu cu h1 e1 hu => ⟨_, _, _, rfl, ?_⟩
  obtain ⟨_, _, hf, _⟩ := hu.form
  cases hf
  have hul : (rise (xs ++ ys)).length ≤ 120 := by
    have := rise_len (xs ++ ys)
    rw [List.length_append] at this; omega
  have s1 := e1.size
  have hl1 := hl.ext e1
  have hq1 := hq.ext e1
  refine loop_sem mixed (α := Nat) (fun i => [(0, .slice a xs.length c), (1, .slice b ys.length d), (5, .slice au (rise (xs ++ ys)).length cu), (6, .int .i64 i)])
    (fun i h' => h1 = h' ∧ 1 ≤ i ∧ i ≤ (rise (xs ++ ys)).length + 1) (fun i _ => (rise (xs ++ ys)).length + 1 - i) 1 (by kernel_rfl) ⟨rfl, rfl, rfl, rfl, trivial⟩ ⟨rfl, Nat.le_refl _, by omega⟩ ?_
  rintro i _ ⟨rfl, hi1, hi⟩
  refine Wrap.mk ?_; refine kmp (B := iteB (decide ((↑i : Int) < (↑(List.length (rise (xs ++ ys))) : Int))) (∃ (b_1 : Nat), ∃ (o : Nat), ∃ (j : Nat), au = some (Addr.mk b_1 o none) ∧ (↑i : Int) = (↑j : Int) ∧ j < List.length (rise (xs ++ ys)) ∧ ∃ (x : ByteArray), cellAt h1 b_1 (o + j) = some (Value.string x) ∧ ∃ (n : Int), Wr IntKind.i64 ((↑i : Int) - 1) n ∧ ∃ (b_2 : Nat), ∃ (o : Nat), ∃ (j : Nat), au = some (Addr.mk b_2 o none) ∧ n = (↑j : Int) ∧ j < List.length (rise (xs ++ ys)) ∧ ∃ (x_1 : ByteArray), cellAt h1 b_2 (o + j) = some (Value.string x_1) ∧ iteB (strLt x x_1 || strEq x x_1) (K (Value.bool false) h1) (∃ (n : Int), Wr IntKind.i64 ((↑i : Int) + 1) n ∧ ∃ (x' : Nat), (Value.slice a (List.length xs) c = Value.slice a (List.length xs) c ∧ Value.slice b (List.length ys) d = Value.slice b (List.length ys) d ∧ Value.slice au (List.length (rise (xs ++ ys))) cu = Value.slice au (List.length (rise (xs ++ ys))) cu ∧ Value.int IntKind.i64 n = Value.int IntKind.i64 (↑x' : Int) ∧ True) ∧ (h1 = h1 ∧ 1 ≤ x' ∧ x' ≤ List.length (rise (xs ++ ys)) + 1) ∧ List.length (rise (xs ++ ys)) + 1 - x' < List.length (rise (xs ++ ys)) + 1 - i)) (VSem Tryz.prog fc3 (cd Tryz.f3 37) [(0, Value.slice a (List.length xs) c), (1, Value.slice b (List.length ys) d), (5, Value.slice au (List.length (rise (xs ++ ys))) cu), (6, Value.int IntKind.i64 (↑i : Int)), (7, Value.int IntKind.i64 0), (23, Value.bool (decide ((↑i : Int) < (↑(List.length (rise (xs ++ ys))) : Int))))] h1 (vcBlock 2 (vcThen (fun (r : Regs) (h : Heap) => vcCode Tryz.prog fc3 (cd Tryz.f3 54) r h (vcPost Tryz.prog (Array.toList (Func.results Tryz.f3)) K X)) (vcPost Tryz.prog (Array.toList (Func.results Tryz.f3)) K X))))) (by kernel_rfl) ?_
  refine iteB_in (fun hlt => ?_) (fun hge => ?_)
  · have hlt : i < (rise (xs ++ ys)).length := by simpa using hlt
    obtain ⟨b1, o, rfl, _, k0⟩ := hu.atS hlt
    obtain ⟨_, _, e', _, k1⟩ := hu.atS (i := i - 1) (by omega)
    cases e'
    have hr := List.pairwise_iff_getElem.1 (rise_rising (xs ++ ys)) (i - 1) i (by omega) hlt (by omega)
    refine ⟨b1, o, i, rfl, rfl, hlt, _, k0, ((i - 1 : Nat) : Int), wrI' (by omega) (by omega) (by omega), b1, o, i - 1, rfl, rfl, by omega, _, k1, iteB_in (fun h => absurd hr (strLe_iff.1 h)) fun _ => ?_⟩
    exact ⟨_, wrI (by omega) (by omega), i + 1, ⟨rfl, rfl, rfl, rfl, trivial⟩, ⟨rfl, by omega, by omega⟩, by omega⟩
  · refine loop_sem mixed (α := Nat) (fun i => [(0, .slice a xs.length c), (1, .slice b ys.length d), (5, .slice au (rise (xs ++ ys)).length cu), (7, .int .i64 i)])
      (fun i h' => h1 = h' ∧ i ≤ (rise (xs ++ ys)).length) (fun i _ => (rise (xs ++ ys)).length - i) 0 (by kernel_rfl) ⟨rfl, rfl, rfl, rfl, trivial⟩ ⟨rfl, Nat.zero_le _⟩ ?_
    rintro i _ ⟨rfl, hi⟩
    refine Wrap.mk ?_; refine kmp (B := iteB (decide ((↑i : Int) < (↑(List.length (rise (xs ++ ys))) : Int))) (∃ (b_1 : Nat), ∃ (o : Nat), ∃ (j : Nat), au = some (Addr.mk b_1 o none) ∧ (↑i : Int) = (↑j : Int) ∧ j < List.length (rise (xs ++ ys)) ∧ ∃ (x : ByteArray), cellAt h1 b_1 (o + j) = some (Value.string x) ∧ CallK Tryz.prog 7 [Value.slice a (List.length xs) c, Value.string x] h1 (fun (v : Value) (h : Heap) => ∃ (x : Bool), v = Value.bool x ∧ iteB (!x) (∃ (b_2 : Nat), ∃ (o : Nat), ∃ (j : Nat), au = some (Addr.mk b_2 o none) ∧ (↑i : Int) = (↑j : Int) ∧ j < List.length (rise (xs ++ ys)) ∧ ∃ (x : ByteArray), cellAt h b_2 (o + j) = some (Value.string x) ∧ CallK Tryz.prog 7 [Value.slice b (List.length ys) d, Value.string x] h (fun (v : Value) (h : Heap) => ∃ (x : Bool), v = Value.bool x ∧ iteB (!x) (K (Value.bool false) h) (∃ (n : Int), Wr IntKind.i64 ((↑i : Int) + 1) n ∧ ∃ (x' : Nat), (Value.slice a (List.length xs) c = Value.slice a (List.length xs) c ∧ Value.slice b (List.length ys) d = Value.slice b (List.length ys) d ∧ Value.slice au (List.length (rise (xs ++ ys))) cu = Value.slice au (List.length (rise (xs ++ ys))) cu ∧ Value.int IntKind.i64 n = Value.int IntKind.i64 (↑x' : Int) ∧ True) ∧ (h1 = h ∧ x' ≤ List.length (rise (xs ++ ys))) ∧ List.length (rise (xs ++ ys)) - x' < List.length (rise (xs ++ ys)) - i)) fun (ch : List PanicEntry) (h : Heap) => X ch h) (∃ (n : Int), Wr IntKind.i64 ((↑i : Int) + 1) n ∧ ∃ (x' : Nat), (Value.slice a (List.length xs) c = Value.slice a (List.length xs) c ∧ Value.slice b (List.length ys) d = Value.slice b (List.length ys) d ∧ Value.slice au (List.length (rise (xs ++ ys))) cu = Value.slice au (List.length (rise (xs ++ ys))) cu ∧ Value.int IntKind.i64 n = Value.int IntKind.i64 (↑x' : Int) ∧ True) ∧ (h1 = h ∧ x' ≤ List.length (rise (xs ++ ys))) ∧ List.length (rise (xs ++ ys)) - x' < List.length (rise (xs ++ ys)) - i)) fun (ch : List PanicEntry) (h : Heap) => X ch h) (CallK Tryz.prog 9 [Value.slice a (List.length xs) c, Value.slice b (List.length ys) d] h1 (fun (v : Value) (h : Heap) => ∃ (a_1 : Option Addr), ∃ (n : Nat), ∃ (c_1 : Nat), v = Value.slice a_1 n c_1 ∧ CallK Tryz.prog 8 [Value.slice au (List.length (rise (xs ++ ys))) cu, Value.slice a_1 n c_1] h (fun (v : Value) (h : Heap) => ∃ (x : Bool), v = Value.bool x ∧ iteB x (CallK Tryz.prog 10 [Value.slice a (List.length xs) c, Value.slice b (List.length ys) d] h (fun (v : Value) (h : Heap) => ∃ (x : Bool), v = Value.bool x ∧ CallK Tryz.prog 11 [Value.slice a (List.length xs) c, Value.slice b (List.length ys) d] h (fun (v : Value) (h : Heap) => ∃ (x_1 : Bool), v = Value.bool x_1 ∧ iteB (x == x_1) (CallK Tryz.prog 10 [Value.slice a (List.length xs) c, Value.slice au (List.length (rise (xs ++ ys))) cu] h (fun (v : Value) (h : Heap) => ∃ (x : Bool), v = Value.bool x ∧ iteB x (CallK Tryz.prog 10 [Value.slice b (List.length ys) d, Value.slice au (List.length (rise (xs ++ ys))) cu] h (fun (v : Value) (h : Heap) => ∃ (x : Bool), v = Value.bool x ∧ iteB x (CallK Tryz.prog 5 [] h (fun (v : Value) (h : Heap) => ∃ (x : Bool), v = Value.bool x ∧ K (Value.bool x) h) fun (ch : List PanicEntry) (h : Heap) => X ch h) (K (Value.bool false) h)) fun (ch : List PanicEntry) (h : Heap) => X ch h) (K (Value.bool false) h)) fun (ch : List PanicEntry) (h : Heap) => X ch h) (K (Value.bool false) h)) fun (ch : List PanicEntry) (h : Heap) => X ch h) fun (ch : List PanicEntry) (h : Heap) => X ch h) (K (Value.bool false) h)) fun (ch : List PanicEntry) (h : Heap) => X ch h) fun (ch : List PanicEntry) (h : Heap) => X ch h)) (by kernel_rfl) ?_
    refine iteB_in (fun hlt => ?_) (fun hge => ?_)
    · have hlt : i < (rise (xs ++ ys)).length := by simpa using hlt
      obtain ⟨b1, o, rfl, _, k0⟩ := hu.atS hlt
      have hm : (rise (xs ++ ys))[i] ∈ xs ∨ (rise (xs ++ ys))[i] ∈ ys := by
        have := mem_rise.1 (List.getElem_mem hlt)
        exact List.mem_append.1 this
      have nx : ∃ (n : Int), Wr IntKind.i64 ((i : Int) + 1) n ∧ ∃ x' : Nat, (Value.slice a xs.length c = Value.slice a xs.length c ∧ Value.slice b ys.length d = Value.slice b ys.length d ∧ Value.slice (some ⟨b1, o, none⟩) (rise (xs ++ ys)).length cu = Value.slice (some ⟨b1, o, none⟩) (rise (xs ++ ys)).length cu ∧ Value.int IntKind.i64 n = Value.int IntKind.i64 (x' : Int) ∧ True) ∧ (h1 = h1 ∧ x' ≤ (rise (xs ++ ys)).length) ∧ (rise (xs ++ ys)).length - x' < (rise (xs ++ ys)).length - i :=
        ⟨_, wrI (by omega) (by omega), i + 1, ⟨rfl, rfl, rfl, rfl, trivial⟩, ⟨rfl, hlt⟩, by omega⟩
      refine ⟨b1, o, i, rfl, rfl, hlt, _, k0, has_spec hl1 (by omega) ⟨_, rfl, iteB_in (fun hno => ?_) (fun _ => nx)⟩⟩
      refine ⟨b1, o, i, rfl, rfl, hlt, _, k0, has_spec hq1 (by omega) ⟨_, rfl, iteB_in (fun hno2 => ?_) (fun _ => nx)⟩⟩
      rcases hm with h | h
      · rw [memB_iff.2 h] at hno; cases hno
      · rw [memB_iff.2 h] at hno2; cases hno2
    · have hl1' : Sl eStr (Al h1) h1 (.slice a xs.length c) xs := hl1.mono fun x hx => Nat.lt_of_lt_of_le hx s1
      have hq1' : Sl eStr (Al h1) h1 (.slice b ys.length d) ys := hq1.mono fun x hx => Nat.lt_of_lt_of_le hx s1
      have hu1 : Sl eStr (Al h1) h1 (.slice au (rise (xs ++ ys)).length cu) (rise (xs ++ ys)) := hu.newAl
      have up : ∀ {h2 h3 : Heap} {v : Value} {zs : List ByteArray}, Ext (Al h2) h2 h3 → Sl eStr (Al h2) h2 v zs → Sl eStr (Al h3) h3 v zs := fun e hs => (hs.ext e).mono fun x hx => Nat.lt_of_lt_of_le hx e.size
      have hall : xs.all (memB (rise (xs ++ ys))) = true := List.all_eq_true.2 fun x hx => memB_iff.2 (mem_rise.2 (List.mem_append.2 (.inl hx)))
      have hall2 : ys.all (memB (rise (xs ++ ys))) = true := List.all_eq_true.2 fun x hx => memB_iff.2 (mem_rise.2 (List.mem_append.2 (.inr hx)))
      refine runion_spec hl1' hq1' (by omega) (by omega) fun ar nr cr h2 e2 hr => ⟨_, _, _, rfl, ?_⟩
      have hr2 := hr.slA fun x hx => Nat.lt_of_lt_of_le hx e2.size
      refine texts_spec (up e2 hu1) hr2 (by omega) (by omega) ⟨_, rfl, iteB_in (fun _ => ?_) (fun h => by rw [listEq_iff.2 rfl] at h; cases h)⟩
      refine fwithin_spec (up e2 hl1') (up e2 hq1') (by omega) (by omega) fun h3 e3 => ⟨_, rfl, ?_⟩
      refine rwithin_spec (up e3 (up e2 hl1')) (up e3 (up e2 hq1')) (by omega) (by omega) ⟨_, rfl, iteB_in (fun _ => ?_) (fun h => by rw [beq_self_eq_true] at h; cases h)⟩
      refine fwithin_spec (up e3 (up e2 hl1')) (up e3 (up e2 hu1)) (by omega) (by omega) fun h4 e4 => ⟨_, rfl, iteB_in (fun _ => ?_) (fun h => by rw [hall] at h; cases h)⟩
      refine fwithin_spec (up e4 (up e3 (up e2 hq1'))) (up e4 (up e3 (up e2 hu1))) (by omega) (by omega) fun h5 e5 => ⟨_, rfl, iteB_in (fun _ => ?_) (fun h => by rw [hall2] at h; cases h)⟩
      refine awake_spec fun h6 e6 => ⟨_, rfl, hK h6 ?_⟩
      have t2 := e2.size
      have t3 := e3.size
      have t4 := e4.size
      have t5 := e5.size
      exact ((((e1.trans (e2.al s1)).trans (e3.al (by omega))).trans (e4.al (by omega))).trans (e5.al (by omega))).trans (e6.al (by omega))
end Go.Proofs.YtdnlhicbjhgjiaaGreatDoor
