import Derived.Test.YtijkiddfobojaaaAbC
/-! The program's structs as Lean structures, and their data: written by program (types.py). -/
namespace Go.Ab
set_option linter.all false
open Go
set_option maxRecDepth 20000
abbrev D.str (s : ByteArray) : D := .v (.string s)
abbrev D.i32 (n : Int) : D := .v (.int .i32 n)
abbrev D.u8 (n : Int) : D := .v (.int .u8 n)
abbrev D.u32 (n : Int) : D := .v (.int .u32 n)
/-- A slice's data. -/
def encL {α : Type} (f : α → D) (l : List α) : D := .sl (l.map f)
@[go_sem] theorem sliceOf_encL {α : Type} (f : α → D) (l : List α) : sliceOf (.d (encL f l)) = some (l.map f) := rfl
@[go_sem] theorem toD_encL {α : Type} (f : α → D) (l : List α) : V.toD (.d (encL f l)) = some (encL f l) := rfl
@[go_sem] theorem cells_encL {α : Type} (f : α → D) (l : List α) : D.cells (encL f l) = [encL f l] := rfl
@[go_sem] theorem vcells_encL {α : Type} (f : α → D) (l : List α) : V.cells (.d (encL f l)) = [.d (encL f l)] := rfl
def encA16_u64 (f : Fin 16 → Int) : D := .agg [D.u (f 0), D.u (f 1), D.u (f 2), D.u (f 3), D.u (f 4), D.u (f 5), D.u (f 6), D.u (f 7), D.u (f 8), D.u (f 9), D.u (f 10), D.u (f 11), D.u (f 12), D.u (f 13), D.u (f 14), D.u (f 15)]
@[go_sem] theorem encA16_u64_len (f : Fin 16 → Int) : (encA16_u64 f).cells.length = 16 := rfl
@[go_sem] theorem encA16_u64_vlen (f : Fin 16 → Int) : (V.d (encA16_u64 f)).cells.length = 16 := rfl
def encA2_u64 (f : Fin 2 → Int) : D := .agg [D.u (f 0), D.u (f 1)]
@[go_sem] theorem encA2_u64_len (f : Fin 2 → Int) : (encA2_u64 f).cells.length = 2 := rfl
@[go_sem] theorem encA2_u64_vlen (f : Fin 2 → Int) : (V.d (encA2_u64 f)).cells.length = 2 := rfl
def encA7_u64 (f : Fin 7 → Int) : D := .agg [D.u (f 0), D.u (f 1), D.u (f 2), D.u (f 3), D.u (f 4), D.u (f 5), D.u (f 6)]
@[go_sem] theorem encA7_u64_len (f : Fin 7 → Int) : (encA7_u64 f).cells.length = 7 := rfl
@[go_sem] theorem encA7_u64_vlen (f : Fin 7 → Int) : (V.d (encA7_u64 f)).cells.length = 7 := rfl
def encA8_u64 (f : Fin 8 → Int) : D := .agg [D.u (f 0), D.u (f 1), D.u (f 2), D.u (f 3), D.u (f 4), D.u (f 5), D.u (f 6), D.u (f 7)]
@[go_sem] theorem encA8_u64_len (f : Fin 8 → Int) : (encA8_u64 f).cells.length = 8 := rfl
@[go_sem] theorem encA8_u64_vlen (f : Fin 8 → Int) : (V.d (encA8_u64 f)).cells.length = 8 := rfl
structure XPair where
  cat : Int
  lev : Int
def XPair.zero : XPair := ⟨0, 0⟩
def XPair.enc (x : XPair) : D := .agg [D.u x.cat, D.i x.lev]
@[go_sem] theorem XPair.len (x : XPair) : x.enc.cells.length = 2 := rfl
@[go_sem] theorem XPair.vlen (x : XPair) : (V.d x.enc).cells.length = 2 := rfl
@[go_sem] theorem XPair.zcells : (V.d XPair.zero.enc).cells = [.d (D.u XPair.zero.cat), .d (D.i XPair.zero.lev)] := rfl
@[go_sem] theorem XPair.z_cat : XPair.zero.cat = 0 := rfl
@[go_sem] theorem XPair.z_lev : XPair.zero.lev = 0 := rfl
@[go_sem] theorem XPair.isStr (x : XPair) : (V.d x.enc).isStr = true := rfl
theorem XPair.agg (x : XPair) : x.enc = .agg [D.u x.cat, D.i x.lev] := rfl
@[go_sem] theorem XPair.toD (x : XPair) : V.toD (V.d x.enc) = some x.enc := rfl
@[go_sem] theorem XPair.ld (x : XPair) : loadBox true 0 2 (.d x.enc) = .d x.enc := by unfold XPair.enc loadBox; rfl
@[go_sem] theorem XPair.tk (x : XPair) : takeD true 2 x.enc.cells = .d x.enc := by unfold XPair.enc takeD D.cells; rfl
@[go_sem] theorem XPair.st (x : XPair) (c : V) (h : c.cells.length = 2) : storeBox 0 (.d x.enc) c = .d x.enc := by unfold storeBox; rw [if_pos ⟨rfl, by rw [h]; rfl⟩]
@[go_sem] theorem XPair.ld_Cat (x : XPair) : loadBox false 0 1 (.d x.enc) = .d (D.u x.cat) := by unfold XPair.enc loadBox; rfl
@[go_sem] theorem XPair.tk_Cat (x : XPair) : takeD false 1 (x.enc.cells) = .d (D.u x.cat) := by unfold XPair.enc takeD D.cells; rfl
@[go_sem] theorem XPair.st_Cat (x : XPair) (v : Int) : storeBox 0 (.d (D.u v)) (.d x.enc) = .d ({ x with cat := v } : XPair).enc := by unfold storeBox; rfl
@[go_sem] theorem XPair.ld_Lev (x : XPair) : loadBox false 1 1 (.d x.enc) = .d (D.i x.lev) := by unfold XPair.enc loadBox; rfl
@[go_sem] theorem XPair.tk_Lev (x : XPair) : takeD false 1 (x.enc.cells.drop 1) = .d (D.i x.lev) := by unfold XPair.enc takeD D.cells; rfl
@[go_sem] theorem XPair.st_Lev (x : XPair) (v : Int) : storeBox 1 (.d (D.i v)) (.d x.enc) = .d ({ x with lev := v } : XPair).enc := by unfold storeBox; rfl
structure XPagesReach where
  va : Int
  n : Int
  cont : Int
  seg : Int
  off : Int
  write : Bool
def XPagesReach.zero : XPagesReach := ⟨0, 0, 0, 0, 0, false⟩
def XPagesReach.enc (x : XPagesReach) : D := .agg [D.i x.va, D.i x.n, D.u x.cont, D.u x.seg, D.i x.off, D.b x.write]
@[go_sem] theorem XPagesReach.len (x : XPagesReach) : x.enc.cells.length = 6 := rfl
@[go_sem] theorem XPagesReach.vlen (x : XPagesReach) : (V.d x.enc).cells.length = 6 := rfl
@[go_sem] theorem XPagesReach.zcells : (V.d XPagesReach.zero.enc).cells = [.d (D.i XPagesReach.zero.va), .d (D.i XPagesReach.zero.n), .d (D.u XPagesReach.zero.cont), .d (D.u XPagesReach.zero.seg), .d (D.i XPagesReach.zero.off), .d (D.b XPagesReach.zero.write)] := rfl
@[go_sem] theorem XPagesReach.z_va : XPagesReach.zero.va = 0 := rfl
@[go_sem] theorem XPagesReach.z_n : XPagesReach.zero.n = 0 := rfl
@[go_sem] theorem XPagesReach.z_cont : XPagesReach.zero.cont = 0 := rfl
@[go_sem] theorem XPagesReach.z_seg : XPagesReach.zero.seg = 0 := rfl
@[go_sem] theorem XPagesReach.z_off : XPagesReach.zero.off = 0 := rfl
@[go_sem] theorem XPagesReach.z_write : XPagesReach.zero.write = false := rfl
@[go_sem] theorem XPagesReach.isStr (x : XPagesReach) : (V.d x.enc).isStr = true := rfl
theorem XPagesReach.agg (x : XPagesReach) : x.enc = .agg [D.i x.va, D.i x.n, D.u x.cont, D.u x.seg, D.i x.off, D.b x.write] := rfl
@[go_sem] theorem XPagesReach.toD (x : XPagesReach) : V.toD (V.d x.enc) = some x.enc := rfl
@[go_sem] theorem XPagesReach.ld (x : XPagesReach) : loadBox true 0 6 (.d x.enc) = .d x.enc := by unfold XPagesReach.enc loadBox; rfl
@[go_sem] theorem XPagesReach.tk (x : XPagesReach) : takeD true 6 x.enc.cells = .d x.enc := by unfold XPagesReach.enc takeD D.cells; rfl
@[go_sem] theorem XPagesReach.st (x : XPagesReach) (c : V) (h : c.cells.length = 6) : storeBox 0 (.d x.enc) c = .d x.enc := by unfold storeBox; rw [if_pos ⟨rfl, by rw [h]; rfl⟩]
@[go_sem] theorem XPagesReach.ld_Va (x : XPagesReach) : loadBox false 0 1 (.d x.enc) = .d (D.i x.va) := by unfold XPagesReach.enc loadBox; rfl
@[go_sem] theorem XPagesReach.tk_Va (x : XPagesReach) : takeD false 1 (x.enc.cells) = .d (D.i x.va) := by unfold XPagesReach.enc takeD D.cells; rfl
@[go_sem] theorem XPagesReach.st_Va (x : XPagesReach) (v : Int) : storeBox 0 (.d (D.i v)) (.d x.enc) = .d ({ x with va := v } : XPagesReach).enc := by unfold storeBox; rfl
@[go_sem] theorem XPagesReach.ld_N (x : XPagesReach) : loadBox false 1 1 (.d x.enc) = .d (D.i x.n) := by unfold XPagesReach.enc loadBox; rfl
@[go_sem] theorem XPagesReach.tk_N (x : XPagesReach) : takeD false 1 (x.enc.cells.drop 1) = .d (D.i x.n) := by unfold XPagesReach.enc takeD D.cells; rfl
@[go_sem] theorem XPagesReach.st_N (x : XPagesReach) (v : Int) : storeBox 1 (.d (D.i v)) (.d x.enc) = .d ({ x with n := v } : XPagesReach).enc := by unfold storeBox; rfl
@[go_sem] theorem XPagesReach.ld_Cont (x : XPagesReach) : loadBox false 2 1 (.d x.enc) = .d (D.u x.cont) := by unfold XPagesReach.enc loadBox; rfl
@[go_sem] theorem XPagesReach.tk_Cont (x : XPagesReach) : takeD false 1 (x.enc.cells.drop 2) = .d (D.u x.cont) := by unfold XPagesReach.enc takeD D.cells; rfl
@[go_sem] theorem XPagesReach.st_Cont (x : XPagesReach) (v : Int) : storeBox 2 (.d (D.u v)) (.d x.enc) = .d ({ x with cont := v } : XPagesReach).enc := by unfold storeBox; rfl
@[go_sem] theorem XPagesReach.ld_Seg (x : XPagesReach) : loadBox false 3 1 (.d x.enc) = .d (D.u x.seg) := by unfold XPagesReach.enc loadBox; rfl
@[go_sem] theorem XPagesReach.tk_Seg (x : XPagesReach) : takeD false 1 (x.enc.cells.drop 3) = .d (D.u x.seg) := by unfold XPagesReach.enc takeD D.cells; rfl
@[go_sem] theorem XPagesReach.st_Seg (x : XPagesReach) (v : Int) : storeBox 3 (.d (D.u v)) (.d x.enc) = .d ({ x with seg := v } : XPagesReach).enc := by unfold storeBox; rfl
@[go_sem] theorem XPagesReach.ld_Off (x : XPagesReach) : loadBox false 4 1 (.d x.enc) = .d (D.i x.off) := by unfold XPagesReach.enc loadBox; rfl
@[go_sem] theorem XPagesReach.tk_Off (x : XPagesReach) : takeD false 1 (x.enc.cells.drop 4) = .d (D.i x.off) := by unfold XPagesReach.enc takeD D.cells; rfl
@[go_sem] theorem XPagesReach.st_Off (x : XPagesReach) (v : Int) : storeBox 4 (.d (D.i v)) (.d x.enc) = .d ({ x with off := v } : XPagesReach).enc := by unfold storeBox; rfl
@[go_sem] theorem XPagesReach.ld_Write (x : XPagesReach) : loadBox false 5 1 (.d x.enc) = .d (D.b x.write) := by unfold XPagesReach.enc loadBox; rfl
@[go_sem] theorem XPagesReach.tk_Write (x : XPagesReach) : takeD false 1 (x.enc.cells.drop 5) = .d (D.b x.write) := by unfold XPagesReach.enc takeD D.cells; rfl
@[go_sem] theorem XPagesReach.st_Write (x : XPagesReach) (v : Bool) : storeBox 5 (.d (D.b v)) (.d x.enc) = .d ({ x with write := v } : XPagesReach).enc := by unfold storeBox; rfl
structure XRef where
  cont : Int
  id : Int
def XRef.zero : XRef := ⟨0, 0⟩
def XRef.enc (x : XRef) : D := .agg [D.u x.cont, D.u x.id]
@[go_sem] theorem XRef.len (x : XRef) : x.enc.cells.length = 2 := rfl
@[go_sem] theorem XRef.vlen (x : XRef) : (V.d x.enc).cells.length = 2 := rfl
@[go_sem] theorem XRef.zcells : (V.d XRef.zero.enc).cells = [.d (D.u XRef.zero.cont), .d (D.u XRef.zero.id)] := rfl
@[go_sem] theorem XRef.z_cont : XRef.zero.cont = 0 := rfl
@[go_sem] theorem XRef.z_id : XRef.zero.id = 0 := rfl
@[go_sem] theorem XRef.isStr (x : XRef) : (V.d x.enc).isStr = true := rfl
theorem XRef.agg (x : XRef) : x.enc = .agg [D.u x.cont, D.u x.id] := rfl
@[go_sem] theorem XRef.toD (x : XRef) : V.toD (V.d x.enc) = some x.enc := rfl
@[go_sem] theorem XRef.ld (x : XRef) : loadBox true 0 2 (.d x.enc) = .d x.enc := by unfold XRef.enc loadBox; rfl
@[go_sem] theorem XRef.tk (x : XRef) : takeD true 2 x.enc.cells = .d x.enc := by unfold XRef.enc takeD D.cells; rfl
@[go_sem] theorem XRef.st (x : XRef) (c : V) (h : c.cells.length = 2) : storeBox 0 (.d x.enc) c = .d x.enc := by unfold storeBox; rw [if_pos ⟨rfl, by rw [h]; rfl⟩]
@[go_sem] theorem XRef.ld_Cont (x : XRef) : loadBox false 0 1 (.d x.enc) = .d (D.u x.cont) := by unfold XRef.enc loadBox; rfl
@[go_sem] theorem XRef.tk_Cont (x : XRef) : takeD false 1 (x.enc.cells) = .d (D.u x.cont) := by unfold XRef.enc takeD D.cells; rfl
@[go_sem] theorem XRef.st_Cont (x : XRef) (v : Int) : storeBox 0 (.d (D.u v)) (.d x.enc) = .d ({ x with cont := v } : XRef).enc := by unfold storeBox; rfl
@[go_sem] theorem XRef.ld_Id (x : XRef) : loadBox false 1 1 (.d x.enc) = .d (D.u x.id) := by unfold XRef.enc loadBox; rfl
@[go_sem] theorem XRef.tk_Id (x : XRef) : takeD false 1 (x.enc.cells.drop 1) = .d (D.u x.id) := by unfold XRef.enc takeD D.cells; rfl
@[go_sem] theorem XRef.st_Id (x : XRef) (v : Int) : storeBox 1 (.d (D.u v)) (.d x.enc) = .d ({ x with id := v } : XRef).enc := by unfold storeBox; rfl
structure XWait where
  ref : XRef
  index : Int
  val : Int
  dev : Bool
def XWait.zero : XWait := ⟨XRef.zero, 0, 0, false⟩
def XWait.enc (x : XWait) : D := .agg [D.u x.ref.cont, D.u x.ref.id, D.u x.index, D.u x.val, D.b x.dev]
@[go_sem] theorem XWait.len (x : XWait) : x.enc.cells.length = 5 := rfl
@[go_sem] theorem XWait.vlen (x : XWait) : (V.d x.enc).cells.length = 5 := rfl
@[go_sem] theorem XWait.zcells : (V.d XWait.zero.enc).cells = [.d (D.u XWait.zero.ref.cont), .d (D.u XWait.zero.ref.id), .d (D.u XWait.zero.index), .d (D.u XWait.zero.val), .d (D.b XWait.zero.dev)] := rfl
@[go_sem] theorem XWait.z_ref : XWait.zero.ref = XRef.zero := rfl
@[go_sem] theorem XWait.z_index : XWait.zero.index = 0 := rfl
@[go_sem] theorem XWait.z_val : XWait.zero.val = 0 := rfl
@[go_sem] theorem XWait.z_dev : XWait.zero.dev = false := rfl
@[go_sem] theorem XWait.isStr (x : XWait) : (V.d x.enc).isStr = true := rfl
theorem XWait.agg (x : XWait) : x.enc = .agg [D.u x.ref.cont, D.u x.ref.id, D.u x.index, D.u x.val, D.b x.dev] := rfl
@[go_sem] theorem XWait.toD (x : XWait) : V.toD (V.d x.enc) = some x.enc := rfl
@[go_sem] theorem XWait.ld (x : XWait) : loadBox true 0 5 (.d x.enc) = .d x.enc := by unfold XWait.enc loadBox; rfl
@[go_sem] theorem XWait.tk (x : XWait) : takeD true 5 x.enc.cells = .d x.enc := by unfold XWait.enc takeD D.cells; rfl
@[go_sem] theorem XWait.st (x : XWait) (c : V) (h : c.cells.length = 5) : storeBox 0 (.d x.enc) c = .d x.enc := by unfold storeBox; rw [if_pos ⟨rfl, by rw [h]; rfl⟩]
@[go_sem] theorem XWait.ld_Ref (x : XWait) : loadBox true 0 2 (.d x.enc) = .d (XRef.enc x.ref) := by unfold XWait.enc loadBox; rfl
@[go_sem] theorem XWait.tk_Ref (x : XWait) : takeD true 2 (x.enc.cells) = .d (XRef.enc x.ref) := by unfold XWait.enc takeD D.cells; rfl
@[go_sem] theorem XWait.st_Ref (x : XWait) (v : XRef) : storeBox 0 (.d (XRef.enc v)) (.d x.enc) = .d ({ x with ref := v }).enc := by unfold storeBox; rfl
@[go_sem] theorem XWait.ld_Ref_Cont (x : XWait) : loadBox false 0 1 (.d x.enc) = .d (D.u x.ref.cont) := by unfold XWait.enc loadBox; rfl
@[go_sem] theorem XWait.tk_Ref_Cont (x : XWait) : takeD false 1 (x.enc.cells) = .d (D.u x.ref.cont) := by unfold XWait.enc takeD D.cells; rfl
@[go_sem] theorem XWait.st_Ref_Cont (x : XWait) (v : Int) : storeBox 0 (.d (D.u v)) (.d x.enc) = .d ({ x with ref := { x.ref with cont := v } } : XWait).enc := by unfold storeBox; rfl
@[go_sem] theorem XWait.ld_Ref_Id (x : XWait) : loadBox false 1 1 (.d x.enc) = .d (D.u x.ref.id) := by unfold XWait.enc loadBox; rfl
@[go_sem] theorem XWait.tk_Ref_Id (x : XWait) : takeD false 1 (x.enc.cells.drop 1) = .d (D.u x.ref.id) := by unfold XWait.enc takeD D.cells; rfl
@[go_sem] theorem XWait.st_Ref_Id (x : XWait) (v : Int) : storeBox 1 (.d (D.u v)) (.d x.enc) = .d ({ x with ref := { x.ref with id := v } } : XWait).enc := by unfold storeBox; rfl
@[go_sem] theorem XWait.ld_Index (x : XWait) : loadBox false 2 1 (.d x.enc) = .d (D.u x.index) := by unfold XWait.enc loadBox; rfl
@[go_sem] theorem XWait.tk_Index (x : XWait) : takeD false 1 (x.enc.cells.drop 2) = .d (D.u x.index) := by unfold XWait.enc takeD D.cells; rfl
@[go_sem] theorem XWait.st_Index (x : XWait) (v : Int) : storeBox 2 (.d (D.u v)) (.d x.enc) = .d ({ x with index := v } : XWait).enc := by unfold storeBox; rfl
@[go_sem] theorem XWait.ld_Val (x : XWait) : loadBox false 3 1 (.d x.enc) = .d (D.u x.val) := by unfold XWait.enc loadBox; rfl
@[go_sem] theorem XWait.tk_Val (x : XWait) : takeD false 1 (x.enc.cells.drop 3) = .d (D.u x.val) := by unfold XWait.enc takeD D.cells; rfl
@[go_sem] theorem XWait.st_Val (x : XWait) (v : Int) : storeBox 3 (.d (D.u v)) (.d x.enc) = .d ({ x with val := v } : XWait).enc := by unfold storeBox; rfl
@[go_sem] theorem XWait.ld_Dev (x : XWait) : loadBox false 4 1 (.d x.enc) = .d (D.b x.dev) := by unfold XWait.enc loadBox; rfl
@[go_sem] theorem XWait.tk_Dev (x : XWait) : takeD false 1 (x.enc.cells.drop 4) = .d (D.b x.dev) := by unfold XWait.enc takeD D.cells; rfl
@[go_sem] theorem XWait.st_Dev (x : XWait) (v : Bool) : storeBox 4 (.d (D.b v)) (.d x.enc) = .d ({ x with dev := v } : XWait).enc := by unfold storeBox; rfl
structure XSpan where
  lo : Int
  hi : Int
def XSpan.zero : XSpan := ⟨0, 0⟩
def XSpan.enc (x : XSpan) : D := .agg [D.u x.lo, D.u x.hi]
@[go_sem] theorem XSpan.len (x : XSpan) : x.enc.cells.length = 2 := rfl
@[go_sem] theorem XSpan.vlen (x : XSpan) : (V.d x.enc).cells.length = 2 := rfl
@[go_sem] theorem XSpan.zcells : (V.d XSpan.zero.enc).cells = [.d (D.u XSpan.zero.lo), .d (D.u XSpan.zero.hi)] := rfl
@[go_sem] theorem XSpan.z_lo : XSpan.zero.lo = 0 := rfl
@[go_sem] theorem XSpan.z_hi : XSpan.zero.hi = 0 := rfl
@[go_sem] theorem XSpan.isStr (x : XSpan) : (V.d x.enc).isStr = true := rfl
theorem XSpan.agg (x : XSpan) : x.enc = .agg [D.u x.lo, D.u x.hi] := rfl
@[go_sem] theorem XSpan.toD (x : XSpan) : V.toD (V.d x.enc) = some x.enc := rfl
@[go_sem] theorem XSpan.ld (x : XSpan) : loadBox true 0 2 (.d x.enc) = .d x.enc := by unfold XSpan.enc loadBox; rfl
@[go_sem] theorem XSpan.tk (x : XSpan) : takeD true 2 x.enc.cells = .d x.enc := by unfold XSpan.enc takeD D.cells; rfl
@[go_sem] theorem XSpan.st (x : XSpan) (c : V) (h : c.cells.length = 2) : storeBox 0 (.d x.enc) c = .d x.enc := by unfold storeBox; rw [if_pos ⟨rfl, by rw [h]; rfl⟩]
@[go_sem] theorem XSpan.ld_Lo (x : XSpan) : loadBox false 0 1 (.d x.enc) = .d (D.u x.lo) := by unfold XSpan.enc loadBox; rfl
@[go_sem] theorem XSpan.tk_Lo (x : XSpan) : takeD false 1 (x.enc.cells) = .d (D.u x.lo) := by unfold XSpan.enc takeD D.cells; rfl
@[go_sem] theorem XSpan.st_Lo (x : XSpan) (v : Int) : storeBox 0 (.d (D.u v)) (.d x.enc) = .d ({ x with lo := v } : XSpan).enc := by unfold storeBox; rfl
@[go_sem] theorem XSpan.ld_Hi (x : XSpan) : loadBox false 1 1 (.d x.enc) = .d (D.u x.hi) := by unfold XSpan.enc loadBox; rfl
@[go_sem] theorem XSpan.tk_Hi (x : XSpan) : takeD false 1 (x.enc.cells.drop 1) = .d (D.u x.hi) := by unfold XSpan.enc takeD D.cells; rfl
@[go_sem] theorem XSpan.st_Hi (x : XSpan) (v : Int) : storeBox 1 (.d (D.u v)) (.d x.enc) = .d ({ x with hi := v } : XSpan).enc := by unfold storeBox; rfl
structure XThread where
  regs : Fin 16 → Int
  pc : Int
  clear : List XPair
  space : XRef
  handler : Int
  vector : Int
  state : Int
  wait : XWait
  alerts : List Int
  span : XSpan
  labs : Fin 4 → List XPair
def encA4_LXPair (f : Fin 4 → List XPair) : D := .agg [encL XPair.enc (f 0), encL XPair.enc (f 1), encL XPair.enc (f 2), encL XPair.enc (f 3)]
@[go_sem] theorem encA4_LXPair_len (f : Fin 4 → List XPair) : (encA4_LXPair f).cells.length = 4 := rfl
@[go_sem] theorem encA4_LXPair_vlen (f : Fin 4 → List XPair) : (V.d (encA4_LXPair f)).cells.length = 4 := rfl
def XThread.zero : XThread := ⟨(fun _ => 0), 0, [], XRef.zero, 0, 0, 0, XWait.zero, [], XSpan.zero, (fun _ => [])⟩
def XThread.enc (x : XThread) : D := .agg [D.u (x.regs 0), D.u (x.regs 1), D.u (x.regs 2), D.u (x.regs 3), D.u (x.regs 4), D.u (x.regs 5), D.u (x.regs 6), D.u (x.regs 7), D.u (x.regs 8), D.u (x.regs 9), D.u (x.regs 10), D.u (x.regs 11), D.u (x.regs 12), D.u (x.regs 13), D.u (x.regs 14), D.u (x.regs 15), D.u x.pc, encL XPair.enc x.clear, D.u x.space.cont, D.u x.space.id, D.u x.handler, D.u x.vector, D.i x.state, D.u x.wait.ref.cont, D.u x.wait.ref.id, D.u x.wait.index, D.u x.wait.val, D.b x.wait.dev, encL D.u x.alerts, D.u x.span.lo, D.u x.span.hi, encL XPair.enc (x.labs 0), encL XPair.enc (x.labs 1), encL XPair.enc (x.labs 2), encL XPair.enc (x.labs 3)]
@[go_sem] theorem XThread.len (x : XThread) : x.enc.cells.length = 35 := rfl
@[go_sem] theorem XThread.vlen (x : XThread) : (V.d x.enc).cells.length = 35 := rfl
@[go_sem] theorem XThread.zcells : (V.d XThread.zero.enc).cells = [.d (D.u (XThread.zero.regs 0)), .d (D.u (XThread.zero.regs 1)), .d (D.u (XThread.zero.regs 2)), .d (D.u (XThread.zero.regs 3)), .d (D.u (XThread.zero.regs 4)), .d (D.u (XThread.zero.regs 5)), .d (D.u (XThread.zero.regs 6)), .d (D.u (XThread.zero.regs 7)), .d (D.u (XThread.zero.regs 8)), .d (D.u (XThread.zero.regs 9)), .d (D.u (XThread.zero.regs 10)), .d (D.u (XThread.zero.regs 11)), .d (D.u (XThread.zero.regs 12)), .d (D.u (XThread.zero.regs 13)), .d (D.u (XThread.zero.regs 14)), .d (D.u (XThread.zero.regs 15)), .d (D.u XThread.zero.pc), .d (encL XPair.enc XThread.zero.clear), .d (D.u XThread.zero.space.cont), .d (D.u XThread.zero.space.id), .d (D.u XThread.zero.handler), .d (D.u XThread.zero.vector), .d (D.i XThread.zero.state), .d (D.u XThread.zero.wait.ref.cont), .d (D.u XThread.zero.wait.ref.id), .d (D.u XThread.zero.wait.index), .d (D.u XThread.zero.wait.val), .d (D.b XThread.zero.wait.dev), .d (encL D.u XThread.zero.alerts), .d (D.u XThread.zero.span.lo), .d (D.u XThread.zero.span.hi), .d (encL XPair.enc (XThread.zero.labs 0)), .d (encL XPair.enc (XThread.zero.labs 1)), .d (encL XPair.enc (XThread.zero.labs 2)), .d (encL XPair.enc (XThread.zero.labs 3))] := rfl
@[go_sem] theorem XThread.z_regs : XThread.zero.regs = (fun _ => 0) := rfl
@[go_sem] theorem XThread.z_pc : XThread.zero.pc = 0 := rfl
@[go_sem] theorem XThread.z_clear : XThread.zero.clear = [] := rfl
@[go_sem] theorem XThread.z_space : XThread.zero.space = XRef.zero := rfl
@[go_sem] theorem XThread.z_handler : XThread.zero.handler = 0 := rfl
@[go_sem] theorem XThread.z_vector : XThread.zero.vector = 0 := rfl
@[go_sem] theorem XThread.z_state : XThread.zero.state = 0 := rfl
@[go_sem] theorem XThread.z_wait : XThread.zero.wait = XWait.zero := rfl
@[go_sem] theorem XThread.z_alerts : XThread.zero.alerts = [] := rfl
@[go_sem] theorem XThread.z_span : XThread.zero.span = XSpan.zero := rfl
@[go_sem] theorem XThread.z_labs : XThread.zero.labs = (fun _ => []) := rfl
@[go_sem] theorem XThread.isStr (x : XThread) : (V.d x.enc).isStr = true := rfl
theorem XThread.agg (x : XThread) : x.enc = .agg [D.u (x.regs 0), D.u (x.regs 1), D.u (x.regs 2), D.u (x.regs 3), D.u (x.regs 4), D.u (x.regs 5), D.u (x.regs 6), D.u (x.regs 7), D.u (x.regs 8), D.u (x.regs 9), D.u (x.regs 10), D.u (x.regs 11), D.u (x.regs 12), D.u (x.regs 13), D.u (x.regs 14), D.u (x.regs 15), D.u x.pc, encL XPair.enc x.clear, D.u x.space.cont, D.u x.space.id, D.u x.handler, D.u x.vector, D.i x.state, D.u x.wait.ref.cont, D.u x.wait.ref.id, D.u x.wait.index, D.u x.wait.val, D.b x.wait.dev, encL D.u x.alerts, D.u x.span.lo, D.u x.span.hi, encL XPair.enc (x.labs 0), encL XPair.enc (x.labs 1), encL XPair.enc (x.labs 2), encL XPair.enc (x.labs 3)] := rfl
@[go_sem] theorem XThread.toD (x : XThread) : V.toD (V.d x.enc) = some x.enc := rfl
@[go_sem] theorem XThread.ld (x : XThread) : loadBox true 0 35 (.d x.enc) = .d x.enc := by unfold XThread.enc loadBox; rfl
@[go_sem] theorem XThread.tk (x : XThread) : takeD true 35 x.enc.cells = .d x.enc := by unfold XThread.enc takeD D.cells; rfl
@[go_sem] theorem XThread.st (x : XThread) (c : V) (h : c.cells.length = 35) : storeBox 0 (.d x.enc) c = .d x.enc := by unfold storeBox; rw [if_pos ⟨rfl, by rw [h]; rfl⟩]
@[go_sem] theorem XThread.ld_Regs (x : XThread) : loadBox true 0 16 (.d x.enc) = .d (encA16_u64 x.regs) := by unfold XThread.enc loadBox; rfl
@[go_sem] theorem XThread.tk_Regs (x : XThread) : takeD true 16 (x.enc.cells) = .d (encA16_u64 x.regs) := by unfold XThread.enc takeD D.cells; rfl
@[go_sem] theorem XThread.ld_Regs_0 (x : XThread) : loadBox false 0 1 (.d x.enc) = .d (D.u (x.regs 0)) := by unfold XThread.enc loadBox; rfl
@[go_sem] theorem XThread.tk_Regs_0 (x : XThread) : takeD false 1 (x.enc.cells) = .d (D.u (x.regs 0)) := by unfold XThread.enc takeD D.cells; rfl
@[go_sem] theorem XThread.ld_Regs_1 (x : XThread) : loadBox false 1 1 (.d x.enc) = .d (D.u (x.regs 1)) := by unfold XThread.enc loadBox; rfl
@[go_sem] theorem XThread.tk_Regs_1 (x : XThread) : takeD false 1 (x.enc.cells.drop 1) = .d (D.u (x.regs 1)) := by unfold XThread.enc takeD D.cells; rfl
@[go_sem] theorem XThread.ld_Regs_2 (x : XThread) : loadBox false 2 1 (.d x.enc) = .d (D.u (x.regs 2)) := by unfold XThread.enc loadBox; rfl
@[go_sem] theorem XThread.tk_Regs_2 (x : XThread) : takeD false 1 (x.enc.cells.drop 2) = .d (D.u (x.regs 2)) := by unfold XThread.enc takeD D.cells; rfl
@[go_sem] theorem XThread.ld_Regs_3 (x : XThread) : loadBox false 3 1 (.d x.enc) = .d (D.u (x.regs 3)) := by unfold XThread.enc loadBox; rfl
@[go_sem] theorem XThread.tk_Regs_3 (x : XThread) : takeD false 1 (x.enc.cells.drop 3) = .d (D.u (x.regs 3)) := by unfold XThread.enc takeD D.cells; rfl
@[go_sem] theorem XThread.ld_Regs_4 (x : XThread) : loadBox false 4 1 (.d x.enc) = .d (D.u (x.regs 4)) := by unfold XThread.enc loadBox; rfl
@[go_sem] theorem XThread.tk_Regs_4 (x : XThread) : takeD false 1 (x.enc.cells.drop 4) = .d (D.u (x.regs 4)) := by unfold XThread.enc takeD D.cells; rfl
@[go_sem] theorem XThread.ld_Regs_5 (x : XThread) : loadBox false 5 1 (.d x.enc) = .d (D.u (x.regs 5)) := by unfold XThread.enc loadBox; rfl
@[go_sem] theorem XThread.tk_Regs_5 (x : XThread) : takeD false 1 (x.enc.cells.drop 5) = .d (D.u (x.regs 5)) := by unfold XThread.enc takeD D.cells; rfl
@[go_sem] theorem XThread.ld_Regs_6 (x : XThread) : loadBox false 6 1 (.d x.enc) = .d (D.u (x.regs 6)) := by unfold XThread.enc loadBox; rfl
@[go_sem] theorem XThread.tk_Regs_6 (x : XThread) : takeD false 1 (x.enc.cells.drop 6) = .d (D.u (x.regs 6)) := by unfold XThread.enc takeD D.cells; rfl
@[go_sem] theorem XThread.ld_Regs_7 (x : XThread) : loadBox false 7 1 (.d x.enc) = .d (D.u (x.regs 7)) := by unfold XThread.enc loadBox; rfl
@[go_sem] theorem XThread.tk_Regs_7 (x : XThread) : takeD false 1 (x.enc.cells.drop 7) = .d (D.u (x.regs 7)) := by unfold XThread.enc takeD D.cells; rfl
@[go_sem] theorem XThread.ld_Regs_8 (x : XThread) : loadBox false 8 1 (.d x.enc) = .d (D.u (x.regs 8)) := by unfold XThread.enc loadBox; rfl
@[go_sem] theorem XThread.tk_Regs_8 (x : XThread) : takeD false 1 (x.enc.cells.drop 8) = .d (D.u (x.regs 8)) := by unfold XThread.enc takeD D.cells; rfl
@[go_sem] theorem XThread.ld_Regs_9 (x : XThread) : loadBox false 9 1 (.d x.enc) = .d (D.u (x.regs 9)) := by unfold XThread.enc loadBox; rfl
@[go_sem] theorem XThread.tk_Regs_9 (x : XThread) : takeD false 1 (x.enc.cells.drop 9) = .d (D.u (x.regs 9)) := by unfold XThread.enc takeD D.cells; rfl
@[go_sem] theorem XThread.ld_Regs_10 (x : XThread) : loadBox false 10 1 (.d x.enc) = .d (D.u (x.regs 10)) := by unfold XThread.enc loadBox; rfl
@[go_sem] theorem XThread.tk_Regs_10 (x : XThread) : takeD false 1 (x.enc.cells.drop 10) = .d (D.u (x.regs 10)) := by unfold XThread.enc takeD D.cells; rfl
@[go_sem] theorem XThread.ld_Regs_11 (x : XThread) : loadBox false 11 1 (.d x.enc) = .d (D.u (x.regs 11)) := by unfold XThread.enc loadBox; rfl
@[go_sem] theorem XThread.tk_Regs_11 (x : XThread) : takeD false 1 (x.enc.cells.drop 11) = .d (D.u (x.regs 11)) := by unfold XThread.enc takeD D.cells; rfl
@[go_sem] theorem XThread.ld_Regs_12 (x : XThread) : loadBox false 12 1 (.d x.enc) = .d (D.u (x.regs 12)) := by unfold XThread.enc loadBox; rfl
@[go_sem] theorem XThread.tk_Regs_12 (x : XThread) : takeD false 1 (x.enc.cells.drop 12) = .d (D.u (x.regs 12)) := by unfold XThread.enc takeD D.cells; rfl
@[go_sem] theorem XThread.ld_Regs_13 (x : XThread) : loadBox false 13 1 (.d x.enc) = .d (D.u (x.regs 13)) := by unfold XThread.enc loadBox; rfl
@[go_sem] theorem XThread.tk_Regs_13 (x : XThread) : takeD false 1 (x.enc.cells.drop 13) = .d (D.u (x.regs 13)) := by unfold XThread.enc takeD D.cells; rfl
@[go_sem] theorem XThread.ld_Regs_14 (x : XThread) : loadBox false 14 1 (.d x.enc) = .d (D.u (x.regs 14)) := by unfold XThread.enc loadBox; rfl
@[go_sem] theorem XThread.tk_Regs_14 (x : XThread) : takeD false 1 (x.enc.cells.drop 14) = .d (D.u (x.regs 14)) := by unfold XThread.enc takeD D.cells; rfl
@[go_sem] theorem XThread.ld_Regs_15 (x : XThread) : loadBox false 15 1 (.d x.enc) = .d (D.u (x.regs 15)) := by unfold XThread.enc loadBox; rfl
@[go_sem] theorem XThread.tk_Regs_15 (x : XThread) : takeD false 1 (x.enc.cells.drop 15) = .d (D.u (x.regs 15)) := by unfold XThread.enc takeD D.cells; rfl
@[go_sem] theorem XThread.ld_Pc (x : XThread) : loadBox false 16 1 (.d x.enc) = .d (D.u x.pc) := by unfold XThread.enc loadBox; rfl
@[go_sem] theorem XThread.tk_Pc (x : XThread) : takeD false 1 (x.enc.cells.drop 16) = .d (D.u x.pc) := by unfold XThread.enc takeD D.cells; rfl
@[go_sem] theorem XThread.st_Pc (x : XThread) (v : Int) : storeBox 16 (.d (D.u v)) (.d x.enc) = .d ({ x with pc := v } : XThread).enc := by unfold storeBox; rfl
@[go_sem] theorem XThread.ld_Clear (x : XThread) : loadBox false 17 1 (.d x.enc) = .d (encL XPair.enc x.clear) := by unfold XThread.enc loadBox; rfl
@[go_sem] theorem XThread.tk_Clear (x : XThread) : takeD false 1 (x.enc.cells.drop 17) = .d (encL XPair.enc x.clear) := by unfold XThread.enc takeD D.cells; rfl
@[go_sem] theorem XThread.st_Clear (x : XThread) (v : List XPair) : storeBox 17 (.d (encL XPair.enc v)) (.d x.enc) = .d ({ x with clear := v } : XThread).enc := by unfold storeBox; rfl
@[go_sem] theorem XThread.ld_Space (x : XThread) : loadBox true 18 2 (.d x.enc) = .d (XRef.enc x.space) := by unfold XThread.enc loadBox; rfl
@[go_sem] theorem XThread.tk_Space (x : XThread) : takeD true 2 (x.enc.cells.drop 18) = .d (XRef.enc x.space) := by unfold XThread.enc takeD D.cells; rfl
@[go_sem] theorem XThread.st_Space (x : XThread) (v : XRef) : storeBox 18 (.d (XRef.enc v)) (.d x.enc) = .d ({ x with space := v }).enc := by unfold storeBox; rfl
@[go_sem] theorem XThread.ld_Space_Cont (x : XThread) : loadBox false 18 1 (.d x.enc) = .d (D.u x.space.cont) := by unfold XThread.enc loadBox; rfl
@[go_sem] theorem XThread.tk_Space_Cont (x : XThread) : takeD false 1 (x.enc.cells.drop 18) = .d (D.u x.space.cont) := by unfold XThread.enc takeD D.cells; rfl
@[go_sem] theorem XThread.st_Space_Cont (x : XThread) (v : Int) : storeBox 18 (.d (D.u v)) (.d x.enc) = .d ({ x with space := { x.space with cont := v } } : XThread).enc := by unfold storeBox; rfl
@[go_sem] theorem XThread.ld_Space_Id (x : XThread) : loadBox false 19 1 (.d x.enc) = .d (D.u x.space.id) := by unfold XThread.enc loadBox; rfl
@[go_sem] theorem XThread.tk_Space_Id (x : XThread) : takeD false 1 (x.enc.cells.drop 19) = .d (D.u x.space.id) := by unfold XThread.enc takeD D.cells; rfl
@[go_sem] theorem XThread.st_Space_Id (x : XThread) (v : Int) : storeBox 19 (.d (D.u v)) (.d x.enc) = .d ({ x with space := { x.space with id := v } } : XThread).enc := by unfold storeBox; rfl
@[go_sem] theorem XThread.ld_Handler (x : XThread) : loadBox false 20 1 (.d x.enc) = .d (D.u x.handler) := by unfold XThread.enc loadBox; rfl
@[go_sem] theorem XThread.tk_Handler (x : XThread) : takeD false 1 (x.enc.cells.drop 20) = .d (D.u x.handler) := by unfold XThread.enc takeD D.cells; rfl
@[go_sem] theorem XThread.st_Handler (x : XThread) (v : Int) : storeBox 20 (.d (D.u v)) (.d x.enc) = .d ({ x with handler := v } : XThread).enc := by unfold storeBox; rfl
@[go_sem] theorem XThread.ld_Vector (x : XThread) : loadBox false 21 1 (.d x.enc) = .d (D.u x.vector) := by unfold XThread.enc loadBox; rfl
@[go_sem] theorem XThread.tk_Vector (x : XThread) : takeD false 1 (x.enc.cells.drop 21) = .d (D.u x.vector) := by unfold XThread.enc takeD D.cells; rfl
@[go_sem] theorem XThread.st_Vector (x : XThread) (v : Int) : storeBox 21 (.d (D.u v)) (.d x.enc) = .d ({ x with vector := v } : XThread).enc := by unfold storeBox; rfl
@[go_sem] theorem XThread.ld_State (x : XThread) : loadBox false 22 1 (.d x.enc) = .d (D.i x.state) := by unfold XThread.enc loadBox; rfl
@[go_sem] theorem XThread.tk_State (x : XThread) : takeD false 1 (x.enc.cells.drop 22) = .d (D.i x.state) := by unfold XThread.enc takeD D.cells; rfl
@[go_sem] theorem XThread.st_State (x : XThread) (v : Int) : storeBox 22 (.d (D.i v)) (.d x.enc) = .d ({ x with state := v } : XThread).enc := by unfold storeBox; rfl
@[go_sem] theorem XThread.ld_Wait (x : XThread) : loadBox true 23 5 (.d x.enc) = .d (XWait.enc x.wait) := by unfold XThread.enc loadBox; rfl
@[go_sem] theorem XThread.tk_Wait (x : XThread) : takeD true 5 (x.enc.cells.drop 23) = .d (XWait.enc x.wait) := by unfold XThread.enc takeD D.cells; rfl
@[go_sem] theorem XThread.st_Wait (x : XThread) (v : XWait) : storeBox 23 (.d (XWait.enc v)) (.d x.enc) = .d ({ x with wait := v }).enc := by unfold storeBox; rfl
@[go_sem] theorem XThread.ld_Wait_Ref (x : XThread) : loadBox true 23 2 (.d x.enc) = .d (XRef.enc x.wait.ref) := by unfold XThread.enc loadBox; rfl
@[go_sem] theorem XThread.tk_Wait_Ref (x : XThread) : takeD true 2 (x.enc.cells.drop 23) = .d (XRef.enc x.wait.ref) := by unfold XThread.enc takeD D.cells; rfl
@[go_sem] theorem XThread.st_Wait_Ref (x : XThread) (v : XRef) : storeBox 23 (.d (XRef.enc v)) (.d x.enc) = .d ({ x with wait := { x.wait with ref := v } }).enc := by unfold storeBox; rfl
@[go_sem] theorem XThread.ld_Wait_Ref_Cont (x : XThread) : loadBox false 23 1 (.d x.enc) = .d (D.u x.wait.ref.cont) := by unfold XThread.enc loadBox; rfl
@[go_sem] theorem XThread.tk_Wait_Ref_Cont (x : XThread) : takeD false 1 (x.enc.cells.drop 23) = .d (D.u x.wait.ref.cont) := by unfold XThread.enc takeD D.cells; rfl
@[go_sem] theorem XThread.st_Wait_Ref_Cont (x : XThread) (v : Int) : storeBox 23 (.d (D.u v)) (.d x.enc) = .d ({ x with wait := { x.wait with ref := { x.wait.ref with cont := v } } } : XThread).enc := by unfold storeBox; rfl
@[go_sem] theorem XThread.ld_Wait_Ref_Id (x : XThread) : loadBox false 24 1 (.d x.enc) = .d (D.u x.wait.ref.id) := by unfold XThread.enc loadBox; rfl
@[go_sem] theorem XThread.tk_Wait_Ref_Id (x : XThread) : takeD false 1 (x.enc.cells.drop 24) = .d (D.u x.wait.ref.id) := by unfold XThread.enc takeD D.cells; rfl
@[go_sem] theorem XThread.st_Wait_Ref_Id (x : XThread) (v : Int) : storeBox 24 (.d (D.u v)) (.d x.enc) = .d ({ x with wait := { x.wait with ref := { x.wait.ref with id := v } } } : XThread).enc := by unfold storeBox; rfl
@[go_sem] theorem XThread.ld_Wait_Index (x : XThread) : loadBox false 25 1 (.d x.enc) = .d (D.u x.wait.index) := by unfold XThread.enc loadBox; rfl
@[go_sem] theorem XThread.tk_Wait_Index (x : XThread) : takeD false 1 (x.enc.cells.drop 25) = .d (D.u x.wait.index) := by unfold XThread.enc takeD D.cells; rfl
@[go_sem] theorem XThread.st_Wait_Index (x : XThread) (v : Int) : storeBox 25 (.d (D.u v)) (.d x.enc) = .d ({ x with wait := { x.wait with index := v } } : XThread).enc := by unfold storeBox; rfl
@[go_sem] theorem XThread.ld_Wait_Val (x : XThread) : loadBox false 26 1 (.d x.enc) = .d (D.u x.wait.val) := by unfold XThread.enc loadBox; rfl
@[go_sem] theorem XThread.tk_Wait_Val (x : XThread) : takeD false 1 (x.enc.cells.drop 26) = .d (D.u x.wait.val) := by unfold XThread.enc takeD D.cells; rfl
@[go_sem] theorem XThread.st_Wait_Val (x : XThread) (v : Int) : storeBox 26 (.d (D.u v)) (.d x.enc) = .d ({ x with wait := { x.wait with val := v } } : XThread).enc := by unfold storeBox; rfl
@[go_sem] theorem XThread.ld_Wait_Dev (x : XThread) : loadBox false 27 1 (.d x.enc) = .d (D.b x.wait.dev) := by unfold XThread.enc loadBox; rfl
@[go_sem] theorem XThread.tk_Wait_Dev (x : XThread) : takeD false 1 (x.enc.cells.drop 27) = .d (D.b x.wait.dev) := by unfold XThread.enc takeD D.cells; rfl
@[go_sem] theorem XThread.st_Wait_Dev (x : XThread) (v : Bool) : storeBox 27 (.d (D.b v)) (.d x.enc) = .d ({ x with wait := { x.wait with dev := v } } : XThread).enc := by unfold storeBox; rfl
@[go_sem] theorem XThread.ld_Alerts (x : XThread) : loadBox false 28 1 (.d x.enc) = .d (encL D.u x.alerts) := by unfold XThread.enc loadBox; rfl
@[go_sem] theorem XThread.tk_Alerts (x : XThread) : takeD false 1 (x.enc.cells.drop 28) = .d (encL D.u x.alerts) := by unfold XThread.enc takeD D.cells; rfl
@[go_sem] theorem XThread.st_Alerts (x : XThread) (v : List Int) : storeBox 28 (.d (encL D.u v)) (.d x.enc) = .d ({ x with alerts := v } : XThread).enc := by unfold storeBox; rfl
@[go_sem] theorem XThread.ld_Span (x : XThread) : loadBox true 29 2 (.d x.enc) = .d (XSpan.enc x.span) := by unfold XThread.enc loadBox; rfl
@[go_sem] theorem XThread.tk_Span (x : XThread) : takeD true 2 (x.enc.cells.drop 29) = .d (XSpan.enc x.span) := by unfold XThread.enc takeD D.cells; rfl
@[go_sem] theorem XThread.st_Span (x : XThread) (v : XSpan) : storeBox 29 (.d (XSpan.enc v)) (.d x.enc) = .d ({ x with span := v }).enc := by unfold storeBox; rfl
@[go_sem] theorem XThread.ld_Span_Lo (x : XThread) : loadBox false 29 1 (.d x.enc) = .d (D.u x.span.lo) := by unfold XThread.enc loadBox; rfl
@[go_sem] theorem XThread.tk_Span_Lo (x : XThread) : takeD false 1 (x.enc.cells.drop 29) = .d (D.u x.span.lo) := by unfold XThread.enc takeD D.cells; rfl
@[go_sem] theorem XThread.st_Span_Lo (x : XThread) (v : Int) : storeBox 29 (.d (D.u v)) (.d x.enc) = .d ({ x with span := { x.span with lo := v } } : XThread).enc := by unfold storeBox; rfl
@[go_sem] theorem XThread.ld_Span_Hi (x : XThread) : loadBox false 30 1 (.d x.enc) = .d (D.u x.span.hi) := by unfold XThread.enc loadBox; rfl
@[go_sem] theorem XThread.tk_Span_Hi (x : XThread) : takeD false 1 (x.enc.cells.drop 30) = .d (D.u x.span.hi) := by unfold XThread.enc takeD D.cells; rfl
@[go_sem] theorem XThread.st_Span_Hi (x : XThread) (v : Int) : storeBox 30 (.d (D.u v)) (.d x.enc) = .d ({ x with span := { x.span with hi := v } } : XThread).enc := by unfold storeBox; rfl
@[go_sem] theorem XThread.ld_Labs (x : XThread) : loadBox true 31 4 (.d x.enc) = .d (encA4_LXPair x.labs) := by unfold XThread.enc loadBox; rfl
@[go_sem] theorem XThread.tk_Labs (x : XThread) : takeD true 4 (x.enc.cells.drop 31) = .d (encA4_LXPair x.labs) := by unfold XThread.enc takeD D.cells; rfl
@[go_sem] theorem XThread.ld_Labs_0 (x : XThread) : loadBox false 31 1 (.d x.enc) = .d (encL XPair.enc (x.labs 0)) := by unfold XThread.enc loadBox; rfl
@[go_sem] theorem XThread.tk_Labs_0 (x : XThread) : takeD false 1 (x.enc.cells.drop 31) = .d (encL XPair.enc (x.labs 0)) := by unfold XThread.enc takeD D.cells; rfl
@[go_sem] theorem XThread.ld_Labs_1 (x : XThread) : loadBox false 32 1 (.d x.enc) = .d (encL XPair.enc (x.labs 1)) := by unfold XThread.enc loadBox; rfl
@[go_sem] theorem XThread.tk_Labs_1 (x : XThread) : takeD false 1 (x.enc.cells.drop 32) = .d (encL XPair.enc (x.labs 1)) := by unfold XThread.enc takeD D.cells; rfl
@[go_sem] theorem XThread.ld_Labs_2 (x : XThread) : loadBox false 33 1 (.d x.enc) = .d (encL XPair.enc (x.labs 2)) := by unfold XThread.enc loadBox; rfl
@[go_sem] theorem XThread.tk_Labs_2 (x : XThread) : takeD false 1 (x.enc.cells.drop 33) = .d (encL XPair.enc (x.labs 2)) := by unfold XThread.enc takeD D.cells; rfl
@[go_sem] theorem XThread.ld_Labs_3 (x : XThread) : loadBox false 34 1 (.d x.enc) = .d (encL XPair.enc (x.labs 3)) := by unfold XThread.enc loadBox; rfl
@[go_sem] theorem XThread.tk_Labs_3 (x : XThread) : takeD false 1 (x.enc.cells.drop 34) = .d (encL XPair.enc (x.labs 3)) := by unfold XThread.enc takeD D.cells; rfl
structure XGate where
  grant : List XPair
  clear : List XPair
  space : XRef
  pc : Int
  arg : Int
def XGate.zero : XGate := ⟨[], [], XRef.zero, 0, 0⟩
def XGate.enc (x : XGate) : D := .agg [encL XPair.enc x.grant, encL XPair.enc x.clear, D.u x.space.cont, D.u x.space.id, D.u x.pc, D.u x.arg]
@[go_sem] theorem XGate.len (x : XGate) : x.enc.cells.length = 6 := rfl
@[go_sem] theorem XGate.vlen (x : XGate) : (V.d x.enc).cells.length = 6 := rfl
@[go_sem] theorem XGate.zcells : (V.d XGate.zero.enc).cells = [.d (encL XPair.enc XGate.zero.grant), .d (encL XPair.enc XGate.zero.clear), .d (D.u XGate.zero.space.cont), .d (D.u XGate.zero.space.id), .d (D.u XGate.zero.pc), .d (D.u XGate.zero.arg)] := rfl
@[go_sem] theorem XGate.z_grant : XGate.zero.grant = [] := rfl
@[go_sem] theorem XGate.z_clear : XGate.zero.clear = [] := rfl
@[go_sem] theorem XGate.z_space : XGate.zero.space = XRef.zero := rfl
@[go_sem] theorem XGate.z_pc : XGate.zero.pc = 0 := rfl
@[go_sem] theorem XGate.z_arg : XGate.zero.arg = 0 := rfl
@[go_sem] theorem XGate.isStr (x : XGate) : (V.d x.enc).isStr = true := rfl
theorem XGate.agg (x : XGate) : x.enc = .agg [encL XPair.enc x.grant, encL XPair.enc x.clear, D.u x.space.cont, D.u x.space.id, D.u x.pc, D.u x.arg] := rfl
@[go_sem] theorem XGate.toD (x : XGate) : V.toD (V.d x.enc) = some x.enc := rfl
@[go_sem] theorem XGate.ld (x : XGate) : loadBox true 0 6 (.d x.enc) = .d x.enc := by unfold XGate.enc loadBox; rfl
@[go_sem] theorem XGate.tk (x : XGate) : takeD true 6 x.enc.cells = .d x.enc := by unfold XGate.enc takeD D.cells; rfl
@[go_sem] theorem XGate.st (x : XGate) (c : V) (h : c.cells.length = 6) : storeBox 0 (.d x.enc) c = .d x.enc := by unfold storeBox; rw [if_pos ⟨rfl, by rw [h]; rfl⟩]
@[go_sem] theorem XGate.ld_Grant (x : XGate) : loadBox false 0 1 (.d x.enc) = .d (encL XPair.enc x.grant) := by unfold XGate.enc loadBox; rfl
@[go_sem] theorem XGate.tk_Grant (x : XGate) : takeD false 1 (x.enc.cells) = .d (encL XPair.enc x.grant) := by unfold XGate.enc takeD D.cells; rfl
@[go_sem] theorem XGate.st_Grant (x : XGate) (v : List XPair) : storeBox 0 (.d (encL XPair.enc v)) (.d x.enc) = .d ({ x with grant := v } : XGate).enc := by unfold storeBox; rfl
@[go_sem] theorem XGate.ld_Clear (x : XGate) : loadBox false 1 1 (.d x.enc) = .d (encL XPair.enc x.clear) := by unfold XGate.enc loadBox; rfl
@[go_sem] theorem XGate.tk_Clear (x : XGate) : takeD false 1 (x.enc.cells.drop 1) = .d (encL XPair.enc x.clear) := by unfold XGate.enc takeD D.cells; rfl
@[go_sem] theorem XGate.st_Clear (x : XGate) (v : List XPair) : storeBox 1 (.d (encL XPair.enc v)) (.d x.enc) = .d ({ x with clear := v } : XGate).enc := by unfold storeBox; rfl
@[go_sem] theorem XGate.ld_Space (x : XGate) : loadBox true 2 2 (.d x.enc) = .d (XRef.enc x.space) := by unfold XGate.enc loadBox; rfl
@[go_sem] theorem XGate.tk_Space (x : XGate) : takeD true 2 (x.enc.cells.drop 2) = .d (XRef.enc x.space) := by unfold XGate.enc takeD D.cells; rfl
@[go_sem] theorem XGate.st_Space (x : XGate) (v : XRef) : storeBox 2 (.d (XRef.enc v)) (.d x.enc) = .d ({ x with space := v }).enc := by unfold storeBox; rfl
@[go_sem] theorem XGate.ld_Space_Cont (x : XGate) : loadBox false 2 1 (.d x.enc) = .d (D.u x.space.cont) := by unfold XGate.enc loadBox; rfl
@[go_sem] theorem XGate.tk_Space_Cont (x : XGate) : takeD false 1 (x.enc.cells.drop 2) = .d (D.u x.space.cont) := by unfold XGate.enc takeD D.cells; rfl
@[go_sem] theorem XGate.st_Space_Cont (x : XGate) (v : Int) : storeBox 2 (.d (D.u v)) (.d x.enc) = .d ({ x with space := { x.space with cont := v } } : XGate).enc := by unfold storeBox; rfl
@[go_sem] theorem XGate.ld_Space_Id (x : XGate) : loadBox false 3 1 (.d x.enc) = .d (D.u x.space.id) := by unfold XGate.enc loadBox; rfl
@[go_sem] theorem XGate.tk_Space_Id (x : XGate) : takeD false 1 (x.enc.cells.drop 3) = .d (D.u x.space.id) := by unfold XGate.enc takeD D.cells; rfl
@[go_sem] theorem XGate.st_Space_Id (x : XGate) (v : Int) : storeBox 3 (.d (D.u v)) (.d x.enc) = .d ({ x with space := { x.space with id := v } } : XGate).enc := by unfold storeBox; rfl
@[go_sem] theorem XGate.ld_Pc (x : XGate) : loadBox false 4 1 (.d x.enc) = .d (D.u x.pc) := by unfold XGate.enc loadBox; rfl
@[go_sem] theorem XGate.tk_Pc (x : XGate) : takeD false 1 (x.enc.cells.drop 4) = .d (D.u x.pc) := by unfold XGate.enc takeD D.cells; rfl
@[go_sem] theorem XGate.st_Pc (x : XGate) (v : Int) : storeBox 4 (.d (D.u v)) (.d x.enc) = .d ({ x with pc := v } : XGate).enc := by unfold storeBox; rfl
@[go_sem] theorem XGate.ld_Arg (x : XGate) : loadBox false 5 1 (.d x.enc) = .d (D.u x.arg) := by unfold XGate.enc loadBox; rfl
@[go_sem] theorem XGate.tk_Arg (x : XGate) : takeD false 1 (x.enc.cells.drop 5) = .d (D.u x.arg) := by unfold XGate.enc takeD D.cells; rfl
@[go_sem] theorem XGate.st_Arg (x : XGate) (v : Int) : storeBox 5 (.d (D.u v)) (.d x.enc) = .d ({ x with arg := v } : XGate).enc := by unfold storeBox; rfl
structure XObject where
  id : Int
  kind : Int
  label : List XPair
  quota : Int
  fixed : Bool
  links : List Int
  data : List Int
  maps : List XPagesReach
  thread : XThread
  gate : XGate
  in' : List Int
  out : List Int
def XObject.zero : XObject := ⟨0, 0, [], 0, false, [], [], [], XThread.zero, XGate.zero, [], []⟩
def XObject.enc (x : XObject) : D := .agg [D.u x.id, D.i x.kind, encL XPair.enc x.label, D.i x.quota, D.b x.fixed, encL D.u x.links, encL D.u x.data, encL XPagesReach.enc x.maps, D.u (x.thread.regs 0), D.u (x.thread.regs 1), D.u (x.thread.regs 2), D.u (x.thread.regs 3), D.u (x.thread.regs 4), D.u (x.thread.regs 5), D.u (x.thread.regs 6), D.u (x.thread.regs 7), D.u (x.thread.regs 8), D.u (x.thread.regs 9), D.u (x.thread.regs 10), D.u (x.thread.regs 11), D.u (x.thread.regs 12), D.u (x.thread.regs 13), D.u (x.thread.regs 14), D.u (x.thread.regs 15), D.u x.thread.pc, encL XPair.enc x.thread.clear, D.u x.thread.space.cont, D.u x.thread.space.id, D.u x.thread.handler, D.u x.thread.vector, D.i x.thread.state, D.u x.thread.wait.ref.cont, D.u x.thread.wait.ref.id, D.u x.thread.wait.index, D.u x.thread.wait.val, D.b x.thread.wait.dev, encL D.u x.thread.alerts, D.u x.thread.span.lo, D.u x.thread.span.hi, encL XPair.enc (x.thread.labs 0), encL XPair.enc (x.thread.labs 1), encL XPair.enc (x.thread.labs 2), encL XPair.enc (x.thread.labs 3), encL XPair.enc x.gate.grant, encL XPair.enc x.gate.clear, D.u x.gate.space.cont, D.u x.gate.space.id, D.u x.gate.pc, D.u x.gate.arg, encL D.u x.in', encL D.u x.out]
@[go_sem] theorem XObject.len (x : XObject) : x.enc.cells.length = 51 := rfl
@[go_sem] theorem XObject.vlen (x : XObject) : (V.d x.enc).cells.length = 51 := rfl
@[go_sem] theorem XObject.zcells : (V.d XObject.zero.enc).cells = [.d (D.u XObject.zero.id), .d (D.i XObject.zero.kind), .d (encL XPair.enc XObject.zero.label), .d (D.i XObject.zero.quota), .d (D.b XObject.zero.fixed), .d (encL D.u XObject.zero.links), .d (encL D.u XObject.zero.data), .d (encL XPagesReach.enc XObject.zero.maps), .d (D.u (XObject.zero.thread.regs 0)), .d (D.u (XObject.zero.thread.regs 1)), .d (D.u (XObject.zero.thread.regs 2)), .d (D.u (XObject.zero.thread.regs 3)), .d (D.u (XObject.zero.thread.regs 4)), .d (D.u (XObject.zero.thread.regs 5)), .d (D.u (XObject.zero.thread.regs 6)), .d (D.u (XObject.zero.thread.regs 7)), .d (D.u (XObject.zero.thread.regs 8)), .d (D.u (XObject.zero.thread.regs 9)), .d (D.u (XObject.zero.thread.regs 10)), .d (D.u (XObject.zero.thread.regs 11)), .d (D.u (XObject.zero.thread.regs 12)), .d (D.u (XObject.zero.thread.regs 13)), .d (D.u (XObject.zero.thread.regs 14)), .d (D.u (XObject.zero.thread.regs 15)), .d (D.u XObject.zero.thread.pc), .d (encL XPair.enc XObject.zero.thread.clear), .d (D.u XObject.zero.thread.space.cont), .d (D.u XObject.zero.thread.space.id), .d (D.u XObject.zero.thread.handler), .d (D.u XObject.zero.thread.vector), .d (D.i XObject.zero.thread.state), .d (D.u XObject.zero.thread.wait.ref.cont), .d (D.u XObject.zero.thread.wait.ref.id), .d (D.u XObject.zero.thread.wait.index), .d (D.u XObject.zero.thread.wait.val), .d (D.b XObject.zero.thread.wait.dev), .d (encL D.u XObject.zero.thread.alerts), .d (D.u XObject.zero.thread.span.lo), .d (D.u XObject.zero.thread.span.hi), .d (encL XPair.enc (XObject.zero.thread.labs 0)), .d (encL XPair.enc (XObject.zero.thread.labs 1)), .d (encL XPair.enc (XObject.zero.thread.labs 2)), .d (encL XPair.enc (XObject.zero.thread.labs 3)), .d (encL XPair.enc XObject.zero.gate.grant), .d (encL XPair.enc XObject.zero.gate.clear), .d (D.u XObject.zero.gate.space.cont), .d (D.u XObject.zero.gate.space.id), .d (D.u XObject.zero.gate.pc), .d (D.u XObject.zero.gate.arg), .d (encL D.u XObject.zero.in'), .d (encL D.u XObject.zero.out)] := rfl
@[go_sem] theorem XObject.z_id : XObject.zero.id = 0 := rfl
@[go_sem] theorem XObject.z_kind : XObject.zero.kind = 0 := rfl
@[go_sem] theorem XObject.z_label : XObject.zero.label = [] := rfl
@[go_sem] theorem XObject.z_quota : XObject.zero.quota = 0 := rfl
@[go_sem] theorem XObject.z_fixed : XObject.zero.fixed = false := rfl
@[go_sem] theorem XObject.z_links : XObject.zero.links = [] := rfl
@[go_sem] theorem XObject.z_data : XObject.zero.data = [] := rfl
@[go_sem] theorem XObject.z_maps : XObject.zero.maps = [] := rfl
@[go_sem] theorem XObject.z_thread : XObject.zero.thread = XThread.zero := rfl
@[go_sem] theorem XObject.z_gate : XObject.zero.gate = XGate.zero := rfl
@[go_sem] theorem XObject.z_in : XObject.zero.in' = [] := rfl
@[go_sem] theorem XObject.z_out : XObject.zero.out = [] := rfl
@[go_sem] theorem XObject.isStr (x : XObject) : (V.d x.enc).isStr = true := rfl
theorem XObject.agg (x : XObject) : x.enc = .agg [D.u x.id, D.i x.kind, encL XPair.enc x.label, D.i x.quota, D.b x.fixed, encL D.u x.links, encL D.u x.data, encL XPagesReach.enc x.maps, D.u (x.thread.regs 0), D.u (x.thread.regs 1), D.u (x.thread.regs 2), D.u (x.thread.regs 3), D.u (x.thread.regs 4), D.u (x.thread.regs 5), D.u (x.thread.regs 6), D.u (x.thread.regs 7), D.u (x.thread.regs 8), D.u (x.thread.regs 9), D.u (x.thread.regs 10), D.u (x.thread.regs 11), D.u (x.thread.regs 12), D.u (x.thread.regs 13), D.u (x.thread.regs 14), D.u (x.thread.regs 15), D.u x.thread.pc, encL XPair.enc x.thread.clear, D.u x.thread.space.cont, D.u x.thread.space.id, D.u x.thread.handler, D.u x.thread.vector, D.i x.thread.state, D.u x.thread.wait.ref.cont, D.u x.thread.wait.ref.id, D.u x.thread.wait.index, D.u x.thread.wait.val, D.b x.thread.wait.dev, encL D.u x.thread.alerts, D.u x.thread.span.lo, D.u x.thread.span.hi, encL XPair.enc (x.thread.labs 0), encL XPair.enc (x.thread.labs 1), encL XPair.enc (x.thread.labs 2), encL XPair.enc (x.thread.labs 3), encL XPair.enc x.gate.grant, encL XPair.enc x.gate.clear, D.u x.gate.space.cont, D.u x.gate.space.id, D.u x.gate.pc, D.u x.gate.arg, encL D.u x.in', encL D.u x.out] := rfl
@[go_sem] theorem XObject.toD (x : XObject) : V.toD (V.d x.enc) = some x.enc := rfl
@[go_sem] theorem XObject.ld (x : XObject) : loadBox true 0 51 (.d x.enc) = .d x.enc := by unfold XObject.enc loadBox; rfl
@[go_sem] theorem XObject.tk (x : XObject) : takeD true 51 x.enc.cells = .d x.enc := by unfold XObject.enc takeD D.cells; rfl
@[go_sem] theorem XObject.st (x : XObject) (c : V) (h : c.cells.length = 51) : storeBox 0 (.d x.enc) c = .d x.enc := by unfold storeBox; rw [if_pos ⟨rfl, by rw [h]; rfl⟩]
@[go_sem] theorem XObject.ld_Id (x : XObject) : loadBox false 0 1 (.d x.enc) = .d (D.u x.id) := by unfold XObject.enc loadBox; rfl
@[go_sem] theorem XObject.tk_Id (x : XObject) : takeD false 1 (x.enc.cells) = .d (D.u x.id) := by unfold XObject.enc takeD D.cells; rfl
@[go_sem] theorem XObject.st_Id (x : XObject) (v : Int) : storeBox 0 (.d (D.u v)) (.d x.enc) = .d ({ x with id := v } : XObject).enc := by unfold storeBox; rfl
@[go_sem] theorem XObject.ld_Kind (x : XObject) : loadBox false 1 1 (.d x.enc) = .d (D.i x.kind) := by unfold XObject.enc loadBox; rfl
@[go_sem] theorem XObject.tk_Kind (x : XObject) : takeD false 1 (x.enc.cells.drop 1) = .d (D.i x.kind) := by unfold XObject.enc takeD D.cells; rfl
@[go_sem] theorem XObject.st_Kind (x : XObject) (v : Int) : storeBox 1 (.d (D.i v)) (.d x.enc) = .d ({ x with kind := v } : XObject).enc := by unfold storeBox; rfl
@[go_sem] theorem XObject.ld_Label (x : XObject) : loadBox false 2 1 (.d x.enc) = .d (encL XPair.enc x.label) := by unfold XObject.enc loadBox; rfl
@[go_sem] theorem XObject.tk_Label (x : XObject) : takeD false 1 (x.enc.cells.drop 2) = .d (encL XPair.enc x.label) := by unfold XObject.enc takeD D.cells; rfl
@[go_sem] theorem XObject.st_Label (x : XObject) (v : List XPair) : storeBox 2 (.d (encL XPair.enc v)) (.d x.enc) = .d ({ x with label := v } : XObject).enc := by unfold storeBox; rfl
@[go_sem] theorem XObject.ld_Quota (x : XObject) : loadBox false 3 1 (.d x.enc) = .d (D.i x.quota) := by unfold XObject.enc loadBox; rfl
@[go_sem] theorem XObject.tk_Quota (x : XObject) : takeD false 1 (x.enc.cells.drop 3) = .d (D.i x.quota) := by unfold XObject.enc takeD D.cells; rfl
@[go_sem] theorem XObject.st_Quota (x : XObject) (v : Int) : storeBox 3 (.d (D.i v)) (.d x.enc) = .d ({ x with quota := v } : XObject).enc := by unfold storeBox; rfl
@[go_sem] theorem XObject.ld_Fixed (x : XObject) : loadBox false 4 1 (.d x.enc) = .d (D.b x.fixed) := by unfold XObject.enc loadBox; rfl
@[go_sem] theorem XObject.tk_Fixed (x : XObject) : takeD false 1 (x.enc.cells.drop 4) = .d (D.b x.fixed) := by unfold XObject.enc takeD D.cells; rfl
@[go_sem] theorem XObject.st_Fixed (x : XObject) (v : Bool) : storeBox 4 (.d (D.b v)) (.d x.enc) = .d ({ x with fixed := v } : XObject).enc := by unfold storeBox; rfl
@[go_sem] theorem XObject.ld_Links (x : XObject) : loadBox false 5 1 (.d x.enc) = .d (encL D.u x.links) := by unfold XObject.enc loadBox; rfl
@[go_sem] theorem XObject.tk_Links (x : XObject) : takeD false 1 (x.enc.cells.drop 5) = .d (encL D.u x.links) := by unfold XObject.enc takeD D.cells; rfl
@[go_sem] theorem XObject.st_Links (x : XObject) (v : List Int) : storeBox 5 (.d (encL D.u v)) (.d x.enc) = .d ({ x with links := v } : XObject).enc := by unfold storeBox; rfl
@[go_sem] theorem XObject.ld_Data (x : XObject) : loadBox false 6 1 (.d x.enc) = .d (encL D.u x.data) := by unfold XObject.enc loadBox; rfl
@[go_sem] theorem XObject.tk_Data (x : XObject) : takeD false 1 (x.enc.cells.drop 6) = .d (encL D.u x.data) := by unfold XObject.enc takeD D.cells; rfl
@[go_sem] theorem XObject.st_Data (x : XObject) (v : List Int) : storeBox 6 (.d (encL D.u v)) (.d x.enc) = .d ({ x with data := v } : XObject).enc := by unfold storeBox; rfl
@[go_sem] theorem XObject.ld_Maps (x : XObject) : loadBox false 7 1 (.d x.enc) = .d (encL XPagesReach.enc x.maps) := by unfold XObject.enc loadBox; rfl
@[go_sem] theorem XObject.tk_Maps (x : XObject) : takeD false 1 (x.enc.cells.drop 7) = .d (encL XPagesReach.enc x.maps) := by unfold XObject.enc takeD D.cells; rfl
@[go_sem] theorem XObject.st_Maps (x : XObject) (v : List XPagesReach) : storeBox 7 (.d (encL XPagesReach.enc v)) (.d x.enc) = .d ({ x with maps := v } : XObject).enc := by unfold storeBox; rfl
@[go_sem] theorem XObject.ld_Thread (x : XObject) : loadBox true 8 35 (.d x.enc) = .d (XThread.enc x.thread) := by unfold XObject.enc loadBox; rfl
@[go_sem] theorem XObject.tk_Thread (x : XObject) : takeD true 35 (x.enc.cells.drop 8) = .d (XThread.enc x.thread) := by unfold XObject.enc takeD D.cells; rfl
@[go_sem] theorem XObject.st_Thread (x : XObject) (v : XThread) : storeBox 8 (.d (XThread.enc v)) (.d x.enc) = .d ({ x with thread := v }).enc := by unfold storeBox; rfl
@[go_sem] theorem XObject.ld_Thread_Regs (x : XObject) : loadBox true 8 16 (.d x.enc) = .d (encA16_u64 x.thread.regs) := by unfold XObject.enc loadBox; rfl
@[go_sem] theorem XObject.tk_Thread_Regs (x : XObject) : takeD true 16 (x.enc.cells.drop 8) = .d (encA16_u64 x.thread.regs) := by unfold XObject.enc takeD D.cells; rfl
@[go_sem] theorem XObject.ld_Thread_Regs_0 (x : XObject) : loadBox false 8 1 (.d x.enc) = .d (D.u (x.thread.regs 0)) := by unfold XObject.enc loadBox; rfl
@[go_sem] theorem XObject.tk_Thread_Regs_0 (x : XObject) : takeD false 1 (x.enc.cells.drop 8) = .d (D.u (x.thread.regs 0)) := by unfold XObject.enc takeD D.cells; rfl
@[go_sem] theorem XObject.ld_Thread_Regs_1 (x : XObject) : loadBox false 9 1 (.d x.enc) = .d (D.u (x.thread.regs 1)) := by unfold XObject.enc loadBox; rfl
@[go_sem] theorem XObject.tk_Thread_Regs_1 (x : XObject) : takeD false 1 (x.enc.cells.drop 9) = .d (D.u (x.thread.regs 1)) := by unfold XObject.enc takeD D.cells; rfl
@[go_sem] theorem XObject.ld_Thread_Regs_2 (x : XObject) : loadBox false 10 1 (.d x.enc) = .d (D.u (x.thread.regs 2)) := by unfold XObject.enc loadBox; rfl
@[go_sem] theorem XObject.tk_Thread_Regs_2 (x : XObject) : takeD false 1 (x.enc.cells.drop 10) = .d (D.u (x.thread.regs 2)) := by unfold XObject.enc takeD D.cells; rfl
@[go_sem] theorem XObject.ld_Thread_Regs_3 (x : XObject) : loadBox false 11 1 (.d x.enc) = .d (D.u (x.thread.regs 3)) := by unfold XObject.enc loadBox; rfl
@[go_sem] theorem XObject.tk_Thread_Regs_3 (x : XObject) : takeD false 1 (x.enc.cells.drop 11) = .d (D.u (x.thread.regs 3)) := by unfold XObject.enc takeD D.cells; rfl
@[go_sem] theorem XObject.ld_Thread_Regs_4 (x : XObject) : loadBox false 12 1 (.d x.enc) = .d (D.u (x.thread.regs 4)) := by unfold XObject.enc loadBox; rfl
@[go_sem] theorem XObject.tk_Thread_Regs_4 (x : XObject) : takeD false 1 (x.enc.cells.drop 12) = .d (D.u (x.thread.regs 4)) := by unfold XObject.enc takeD D.cells; rfl
@[go_sem] theorem XObject.ld_Thread_Regs_5 (x : XObject) : loadBox false 13 1 (.d x.enc) = .d (D.u (x.thread.regs 5)) := by unfold XObject.enc loadBox; rfl
@[go_sem] theorem XObject.tk_Thread_Regs_5 (x : XObject) : takeD false 1 (x.enc.cells.drop 13) = .d (D.u (x.thread.regs 5)) := by unfold XObject.enc takeD D.cells; rfl
@[go_sem] theorem XObject.ld_Thread_Regs_6 (x : XObject) : loadBox false 14 1 (.d x.enc) = .d (D.u (x.thread.regs 6)) := by unfold XObject.enc loadBox; rfl
@[go_sem] theorem XObject.tk_Thread_Regs_6 (x : XObject) : takeD false 1 (x.enc.cells.drop 14) = .d (D.u (x.thread.regs 6)) := by unfold XObject.enc takeD D.cells; rfl
@[go_sem] theorem XObject.ld_Thread_Regs_7 (x : XObject) : loadBox false 15 1 (.d x.enc) = .d (D.u (x.thread.regs 7)) := by unfold XObject.enc loadBox; rfl
@[go_sem] theorem XObject.tk_Thread_Regs_7 (x : XObject) : takeD false 1 (x.enc.cells.drop 15) = .d (D.u (x.thread.regs 7)) := by unfold XObject.enc takeD D.cells; rfl
@[go_sem] theorem XObject.ld_Thread_Regs_8 (x : XObject) : loadBox false 16 1 (.d x.enc) = .d (D.u (x.thread.regs 8)) := by unfold XObject.enc loadBox; rfl
@[go_sem] theorem XObject.tk_Thread_Regs_8 (x : XObject) : takeD false 1 (x.enc.cells.drop 16) = .d (D.u (x.thread.regs 8)) := by unfold XObject.enc takeD D.cells; rfl
@[go_sem] theorem XObject.ld_Thread_Regs_9 (x : XObject) : loadBox false 17 1 (.d x.enc) = .d (D.u (x.thread.regs 9)) := by unfold XObject.enc loadBox; rfl
@[go_sem] theorem XObject.tk_Thread_Regs_9 (x : XObject) : takeD false 1 (x.enc.cells.drop 17) = .d (D.u (x.thread.regs 9)) := by unfold XObject.enc takeD D.cells; rfl
@[go_sem] theorem XObject.ld_Thread_Regs_10 (x : XObject) : loadBox false 18 1 (.d x.enc) = .d (D.u (x.thread.regs 10)) := by unfold XObject.enc loadBox; rfl
@[go_sem] theorem XObject.tk_Thread_Regs_10 (x : XObject) : takeD false 1 (x.enc.cells.drop 18) = .d (D.u (x.thread.regs 10)) := by unfold XObject.enc takeD D.cells; rfl
@[go_sem] theorem XObject.ld_Thread_Regs_11 (x : XObject) : loadBox false 19 1 (.d x.enc) = .d (D.u (x.thread.regs 11)) := by unfold XObject.enc loadBox; rfl
@[go_sem] theorem XObject.tk_Thread_Regs_11 (x : XObject) : takeD false 1 (x.enc.cells.drop 19) = .d (D.u (x.thread.regs 11)) := by unfold XObject.enc takeD D.cells; rfl
@[go_sem] theorem XObject.ld_Thread_Regs_12 (x : XObject) : loadBox false 20 1 (.d x.enc) = .d (D.u (x.thread.regs 12)) := by unfold XObject.enc loadBox; rfl
@[go_sem] theorem XObject.tk_Thread_Regs_12 (x : XObject) : takeD false 1 (x.enc.cells.drop 20) = .d (D.u (x.thread.regs 12)) := by unfold XObject.enc takeD D.cells; rfl
@[go_sem] theorem XObject.ld_Thread_Regs_13 (x : XObject) : loadBox false 21 1 (.d x.enc) = .d (D.u (x.thread.regs 13)) := by unfold XObject.enc loadBox; rfl
@[go_sem] theorem XObject.tk_Thread_Regs_13 (x : XObject) : takeD false 1 (x.enc.cells.drop 21) = .d (D.u (x.thread.regs 13)) := by unfold XObject.enc takeD D.cells; rfl
@[go_sem] theorem XObject.ld_Thread_Regs_14 (x : XObject) : loadBox false 22 1 (.d x.enc) = .d (D.u (x.thread.regs 14)) := by unfold XObject.enc loadBox; rfl
@[go_sem] theorem XObject.tk_Thread_Regs_14 (x : XObject) : takeD false 1 (x.enc.cells.drop 22) = .d (D.u (x.thread.regs 14)) := by unfold XObject.enc takeD D.cells; rfl
@[go_sem] theorem XObject.ld_Thread_Regs_15 (x : XObject) : loadBox false 23 1 (.d x.enc) = .d (D.u (x.thread.regs 15)) := by unfold XObject.enc loadBox; rfl
@[go_sem] theorem XObject.tk_Thread_Regs_15 (x : XObject) : takeD false 1 (x.enc.cells.drop 23) = .d (D.u (x.thread.regs 15)) := by unfold XObject.enc takeD D.cells; rfl
@[go_sem] theorem XObject.ld_Thread_Pc (x : XObject) : loadBox false 24 1 (.d x.enc) = .d (D.u x.thread.pc) := by unfold XObject.enc loadBox; rfl
@[go_sem] theorem XObject.tk_Thread_Pc (x : XObject) : takeD false 1 (x.enc.cells.drop 24) = .d (D.u x.thread.pc) := by unfold XObject.enc takeD D.cells; rfl
@[go_sem] theorem XObject.st_Thread_Pc (x : XObject) (v : Int) : storeBox 24 (.d (D.u v)) (.d x.enc) = .d ({ x with thread := { x.thread with pc := v } } : XObject).enc := by unfold storeBox; rfl
@[go_sem] theorem XObject.ld_Thread_Clear (x : XObject) : loadBox false 25 1 (.d x.enc) = .d (encL XPair.enc x.thread.clear) := by unfold XObject.enc loadBox; rfl
@[go_sem] theorem XObject.tk_Thread_Clear (x : XObject) : takeD false 1 (x.enc.cells.drop 25) = .d (encL XPair.enc x.thread.clear) := by unfold XObject.enc takeD D.cells; rfl
@[go_sem] theorem XObject.st_Thread_Clear (x : XObject) (v : List XPair) : storeBox 25 (.d (encL XPair.enc v)) (.d x.enc) = .d ({ x with thread := { x.thread with clear := v } } : XObject).enc := by unfold storeBox; rfl
@[go_sem] theorem XObject.ld_Thread_Space (x : XObject) : loadBox true 26 2 (.d x.enc) = .d (XRef.enc x.thread.space) := by unfold XObject.enc loadBox; rfl
@[go_sem] theorem XObject.tk_Thread_Space (x : XObject) : takeD true 2 (x.enc.cells.drop 26) = .d (XRef.enc x.thread.space) := by unfold XObject.enc takeD D.cells; rfl
@[go_sem] theorem XObject.st_Thread_Space (x : XObject) (v : XRef) : storeBox 26 (.d (XRef.enc v)) (.d x.enc) = .d ({ x with thread := { x.thread with space := v } }).enc := by unfold storeBox; rfl
@[go_sem] theorem XObject.ld_Thread_Space_Cont (x : XObject) : loadBox false 26 1 (.d x.enc) = .d (D.u x.thread.space.cont) := by unfold XObject.enc loadBox; rfl
@[go_sem] theorem XObject.tk_Thread_Space_Cont (x : XObject) : takeD false 1 (x.enc.cells.drop 26) = .d (D.u x.thread.space.cont) := by unfold XObject.enc takeD D.cells; rfl
@[go_sem] theorem XObject.st_Thread_Space_Cont (x : XObject) (v : Int) : storeBox 26 (.d (D.u v)) (.d x.enc) = .d ({ x with thread := { x.thread with space := { x.thread.space with cont := v } } } : XObject).enc := by unfold storeBox; rfl
@[go_sem] theorem XObject.ld_Thread_Space_Id (x : XObject) : loadBox false 27 1 (.d x.enc) = .d (D.u x.thread.space.id) := by unfold XObject.enc loadBox; rfl
@[go_sem] theorem XObject.tk_Thread_Space_Id (x : XObject) : takeD false 1 (x.enc.cells.drop 27) = .d (D.u x.thread.space.id) := by unfold XObject.enc takeD D.cells; rfl
@[go_sem] theorem XObject.st_Thread_Space_Id (x : XObject) (v : Int) : storeBox 27 (.d (D.u v)) (.d x.enc) = .d ({ x with thread := { x.thread with space := { x.thread.space with id := v } } } : XObject).enc := by unfold storeBox; rfl
@[go_sem] theorem XObject.ld_Thread_Handler (x : XObject) : loadBox false 28 1 (.d x.enc) = .d (D.u x.thread.handler) := by unfold XObject.enc loadBox; rfl
@[go_sem] theorem XObject.tk_Thread_Handler (x : XObject) : takeD false 1 (x.enc.cells.drop 28) = .d (D.u x.thread.handler) := by unfold XObject.enc takeD D.cells; rfl
@[go_sem] theorem XObject.st_Thread_Handler (x : XObject) (v : Int) : storeBox 28 (.d (D.u v)) (.d x.enc) = .d ({ x with thread := { x.thread with handler := v } } : XObject).enc := by unfold storeBox; rfl
@[go_sem] theorem XObject.ld_Thread_Vector (x : XObject) : loadBox false 29 1 (.d x.enc) = .d (D.u x.thread.vector) := by unfold XObject.enc loadBox; rfl
@[go_sem] theorem XObject.tk_Thread_Vector (x : XObject) : takeD false 1 (x.enc.cells.drop 29) = .d (D.u x.thread.vector) := by unfold XObject.enc takeD D.cells; rfl
@[go_sem] theorem XObject.st_Thread_Vector (x : XObject) (v : Int) : storeBox 29 (.d (D.u v)) (.d x.enc) = .d ({ x with thread := { x.thread with vector := v } } : XObject).enc := by unfold storeBox; rfl
@[go_sem] theorem XObject.ld_Thread_State (x : XObject) : loadBox false 30 1 (.d x.enc) = .d (D.i x.thread.state) := by unfold XObject.enc loadBox; rfl
@[go_sem] theorem XObject.tk_Thread_State (x : XObject) : takeD false 1 (x.enc.cells.drop 30) = .d (D.i x.thread.state) := by unfold XObject.enc takeD D.cells; rfl
@[go_sem] theorem XObject.st_Thread_State (x : XObject) (v : Int) : storeBox 30 (.d (D.i v)) (.d x.enc) = .d ({ x with thread := { x.thread with state := v } } : XObject).enc := by unfold storeBox; rfl
@[go_sem] theorem XObject.ld_Thread_Wait (x : XObject) : loadBox true 31 5 (.d x.enc) = .d (XWait.enc x.thread.wait) := by unfold XObject.enc loadBox; rfl
@[go_sem] theorem XObject.tk_Thread_Wait (x : XObject) : takeD true 5 (x.enc.cells.drop 31) = .d (XWait.enc x.thread.wait) := by unfold XObject.enc takeD D.cells; rfl
@[go_sem] theorem XObject.st_Thread_Wait (x : XObject) (v : XWait) : storeBox 31 (.d (XWait.enc v)) (.d x.enc) = .d ({ x with thread := { x.thread with wait := v } }).enc := by unfold storeBox; rfl
@[go_sem] theorem XObject.ld_Thread_Wait_Ref (x : XObject) : loadBox true 31 2 (.d x.enc) = .d (XRef.enc x.thread.wait.ref) := by unfold XObject.enc loadBox; rfl
@[go_sem] theorem XObject.tk_Thread_Wait_Ref (x : XObject) : takeD true 2 (x.enc.cells.drop 31) = .d (XRef.enc x.thread.wait.ref) := by unfold XObject.enc takeD D.cells; rfl
@[go_sem] theorem XObject.st_Thread_Wait_Ref (x : XObject) (v : XRef) : storeBox 31 (.d (XRef.enc v)) (.d x.enc) = .d ({ x with thread := { x.thread with wait := { x.thread.wait with ref := v } } }).enc := by unfold storeBox; rfl
@[go_sem] theorem XObject.ld_Thread_Wait_Ref_Cont (x : XObject) : loadBox false 31 1 (.d x.enc) = .d (D.u x.thread.wait.ref.cont) := by unfold XObject.enc loadBox; rfl
@[go_sem] theorem XObject.tk_Thread_Wait_Ref_Cont (x : XObject) : takeD false 1 (x.enc.cells.drop 31) = .d (D.u x.thread.wait.ref.cont) := by unfold XObject.enc takeD D.cells; rfl
@[go_sem] theorem XObject.st_Thread_Wait_Ref_Cont (x : XObject) (v : Int) : storeBox 31 (.d (D.u v)) (.d x.enc) = .d ({ x with thread := { x.thread with wait := { x.thread.wait with ref := { x.thread.wait.ref with cont := v } } } } : XObject).enc := by unfold storeBox; rfl
@[go_sem] theorem XObject.ld_Thread_Wait_Ref_Id (x : XObject) : loadBox false 32 1 (.d x.enc) = .d (D.u x.thread.wait.ref.id) := by unfold XObject.enc loadBox; rfl
@[go_sem] theorem XObject.tk_Thread_Wait_Ref_Id (x : XObject) : takeD false 1 (x.enc.cells.drop 32) = .d (D.u x.thread.wait.ref.id) := by unfold XObject.enc takeD D.cells; rfl
@[go_sem] theorem XObject.st_Thread_Wait_Ref_Id (x : XObject) (v : Int) : storeBox 32 (.d (D.u v)) (.d x.enc) = .d ({ x with thread := { x.thread with wait := { x.thread.wait with ref := { x.thread.wait.ref with id := v } } } } : XObject).enc := by unfold storeBox; rfl
@[go_sem] theorem XObject.ld_Thread_Wait_Index (x : XObject) : loadBox false 33 1 (.d x.enc) = .d (D.u x.thread.wait.index) := by unfold XObject.enc loadBox; rfl
@[go_sem] theorem XObject.tk_Thread_Wait_Index (x : XObject) : takeD false 1 (x.enc.cells.drop 33) = .d (D.u x.thread.wait.index) := by unfold XObject.enc takeD D.cells; rfl
@[go_sem] theorem XObject.st_Thread_Wait_Index (x : XObject) (v : Int) : storeBox 33 (.d (D.u v)) (.d x.enc) = .d ({ x with thread := { x.thread with wait := { x.thread.wait with index := v } } } : XObject).enc := by unfold storeBox; rfl
@[go_sem] theorem XObject.ld_Thread_Wait_Val (x : XObject) : loadBox false 34 1 (.d x.enc) = .d (D.u x.thread.wait.val) := by unfold XObject.enc loadBox; rfl
@[go_sem] theorem XObject.tk_Thread_Wait_Val (x : XObject) : takeD false 1 (x.enc.cells.drop 34) = .d (D.u x.thread.wait.val) := by unfold XObject.enc takeD D.cells; rfl
@[go_sem] theorem XObject.st_Thread_Wait_Val (x : XObject) (v : Int) : storeBox 34 (.d (D.u v)) (.d x.enc) = .d ({ x with thread := { x.thread with wait := { x.thread.wait with val := v } } } : XObject).enc := by unfold storeBox; rfl
@[go_sem] theorem XObject.ld_Thread_Wait_Dev (x : XObject) : loadBox false 35 1 (.d x.enc) = .d (D.b x.thread.wait.dev) := by unfold XObject.enc loadBox; rfl
@[go_sem] theorem XObject.tk_Thread_Wait_Dev (x : XObject) : takeD false 1 (x.enc.cells.drop 35) = .d (D.b x.thread.wait.dev) := by unfold XObject.enc takeD D.cells; rfl
@[go_sem] theorem XObject.st_Thread_Wait_Dev (x : XObject) (v : Bool) : storeBox 35 (.d (D.b v)) (.d x.enc) = .d ({ x with thread := { x.thread with wait := { x.thread.wait with dev := v } } } : XObject).enc := by unfold storeBox; rfl
@[go_sem] theorem XObject.ld_Thread_Alerts (x : XObject) : loadBox false 36 1 (.d x.enc) = .d (encL D.u x.thread.alerts) := by unfold XObject.enc loadBox; rfl
@[go_sem] theorem XObject.tk_Thread_Alerts (x : XObject) : takeD false 1 (x.enc.cells.drop 36) = .d (encL D.u x.thread.alerts) := by unfold XObject.enc takeD D.cells; rfl
@[go_sem] theorem XObject.st_Thread_Alerts (x : XObject) (v : List Int) : storeBox 36 (.d (encL D.u v)) (.d x.enc) = .d ({ x with thread := { x.thread with alerts := v } } : XObject).enc := by unfold storeBox; rfl
@[go_sem] theorem XObject.ld_Thread_Span (x : XObject) : loadBox true 37 2 (.d x.enc) = .d (XSpan.enc x.thread.span) := by unfold XObject.enc loadBox; rfl
@[go_sem] theorem XObject.tk_Thread_Span (x : XObject) : takeD true 2 (x.enc.cells.drop 37) = .d (XSpan.enc x.thread.span) := by unfold XObject.enc takeD D.cells; rfl
@[go_sem] theorem XObject.st_Thread_Span (x : XObject) (v : XSpan) : storeBox 37 (.d (XSpan.enc v)) (.d x.enc) = .d ({ x with thread := { x.thread with span := v } }).enc := by unfold storeBox; rfl
@[go_sem] theorem XObject.ld_Thread_Span_Lo (x : XObject) : loadBox false 37 1 (.d x.enc) = .d (D.u x.thread.span.lo) := by unfold XObject.enc loadBox; rfl
@[go_sem] theorem XObject.tk_Thread_Span_Lo (x : XObject) : takeD false 1 (x.enc.cells.drop 37) = .d (D.u x.thread.span.lo) := by unfold XObject.enc takeD D.cells; rfl
@[go_sem] theorem XObject.st_Thread_Span_Lo (x : XObject) (v : Int) : storeBox 37 (.d (D.u v)) (.d x.enc) = .d ({ x with thread := { x.thread with span := { x.thread.span with lo := v } } } : XObject).enc := by unfold storeBox; rfl
@[go_sem] theorem XObject.ld_Thread_Span_Hi (x : XObject) : loadBox false 38 1 (.d x.enc) = .d (D.u x.thread.span.hi) := by unfold XObject.enc loadBox; rfl
@[go_sem] theorem XObject.tk_Thread_Span_Hi (x : XObject) : takeD false 1 (x.enc.cells.drop 38) = .d (D.u x.thread.span.hi) := by unfold XObject.enc takeD D.cells; rfl
@[go_sem] theorem XObject.st_Thread_Span_Hi (x : XObject) (v : Int) : storeBox 38 (.d (D.u v)) (.d x.enc) = .d ({ x with thread := { x.thread with span := { x.thread.span with hi := v } } } : XObject).enc := by unfold storeBox; rfl
@[go_sem] theorem XObject.ld_Thread_Labs (x : XObject) : loadBox true 39 4 (.d x.enc) = .d (encA4_LXPair x.thread.labs) := by unfold XObject.enc loadBox; rfl
@[go_sem] theorem XObject.tk_Thread_Labs (x : XObject) : takeD true 4 (x.enc.cells.drop 39) = .d (encA4_LXPair x.thread.labs) := by unfold XObject.enc takeD D.cells; rfl
@[go_sem] theorem XObject.ld_Thread_Labs_0 (x : XObject) : loadBox false 39 1 (.d x.enc) = .d (encL XPair.enc (x.thread.labs 0)) := by unfold XObject.enc loadBox; rfl
@[go_sem] theorem XObject.tk_Thread_Labs_0 (x : XObject) : takeD false 1 (x.enc.cells.drop 39) = .d (encL XPair.enc (x.thread.labs 0)) := by unfold XObject.enc takeD D.cells; rfl
@[go_sem] theorem XObject.ld_Thread_Labs_1 (x : XObject) : loadBox false 40 1 (.d x.enc) = .d (encL XPair.enc (x.thread.labs 1)) := by unfold XObject.enc loadBox; rfl
@[go_sem] theorem XObject.tk_Thread_Labs_1 (x : XObject) : takeD false 1 (x.enc.cells.drop 40) = .d (encL XPair.enc (x.thread.labs 1)) := by unfold XObject.enc takeD D.cells; rfl
@[go_sem] theorem XObject.ld_Thread_Labs_2 (x : XObject) : loadBox false 41 1 (.d x.enc) = .d (encL XPair.enc (x.thread.labs 2)) := by unfold XObject.enc loadBox; rfl
@[go_sem] theorem XObject.tk_Thread_Labs_2 (x : XObject) : takeD false 1 (x.enc.cells.drop 41) = .d (encL XPair.enc (x.thread.labs 2)) := by unfold XObject.enc takeD D.cells; rfl
@[go_sem] theorem XObject.ld_Thread_Labs_3 (x : XObject) : loadBox false 42 1 (.d x.enc) = .d (encL XPair.enc (x.thread.labs 3)) := by unfold XObject.enc loadBox; rfl
@[go_sem] theorem XObject.tk_Thread_Labs_3 (x : XObject) : takeD false 1 (x.enc.cells.drop 42) = .d (encL XPair.enc (x.thread.labs 3)) := by unfold XObject.enc takeD D.cells; rfl
@[go_sem] theorem XObject.ld_Gate (x : XObject) : loadBox true 43 6 (.d x.enc) = .d (XGate.enc x.gate) := by unfold XObject.enc loadBox; rfl
@[go_sem] theorem XObject.tk_Gate (x : XObject) : takeD true 6 (x.enc.cells.drop 43) = .d (XGate.enc x.gate) := by unfold XObject.enc takeD D.cells; rfl
@[go_sem] theorem XObject.st_Gate (x : XObject) (v : XGate) : storeBox 43 (.d (XGate.enc v)) (.d x.enc) = .d ({ x with gate := v }).enc := by unfold storeBox; rfl
@[go_sem] theorem XObject.ld_Gate_Grant (x : XObject) : loadBox false 43 1 (.d x.enc) = .d (encL XPair.enc x.gate.grant) := by unfold XObject.enc loadBox; rfl
@[go_sem] theorem XObject.tk_Gate_Grant (x : XObject) : takeD false 1 (x.enc.cells.drop 43) = .d (encL XPair.enc x.gate.grant) := by unfold XObject.enc takeD D.cells; rfl
@[go_sem] theorem XObject.st_Gate_Grant (x : XObject) (v : List XPair) : storeBox 43 (.d (encL XPair.enc v)) (.d x.enc) = .d ({ x with gate := { x.gate with grant := v } } : XObject).enc := by unfold storeBox; rfl
@[go_sem] theorem XObject.ld_Gate_Clear (x : XObject) : loadBox false 44 1 (.d x.enc) = .d (encL XPair.enc x.gate.clear) := by unfold XObject.enc loadBox; rfl
@[go_sem] theorem XObject.tk_Gate_Clear (x : XObject) : takeD false 1 (x.enc.cells.drop 44) = .d (encL XPair.enc x.gate.clear) := by unfold XObject.enc takeD D.cells; rfl
@[go_sem] theorem XObject.st_Gate_Clear (x : XObject) (v : List XPair) : storeBox 44 (.d (encL XPair.enc v)) (.d x.enc) = .d ({ x with gate := { x.gate with clear := v } } : XObject).enc := by unfold storeBox; rfl
@[go_sem] theorem XObject.ld_Gate_Space (x : XObject) : loadBox true 45 2 (.d x.enc) = .d (XRef.enc x.gate.space) := by unfold XObject.enc loadBox; rfl
@[go_sem] theorem XObject.tk_Gate_Space (x : XObject) : takeD true 2 (x.enc.cells.drop 45) = .d (XRef.enc x.gate.space) := by unfold XObject.enc takeD D.cells; rfl
@[go_sem] theorem XObject.st_Gate_Space (x : XObject) (v : XRef) : storeBox 45 (.d (XRef.enc v)) (.d x.enc) = .d ({ x with gate := { x.gate with space := v } }).enc := by unfold storeBox; rfl
@[go_sem] theorem XObject.ld_Gate_Space_Cont (x : XObject) : loadBox false 45 1 (.d x.enc) = .d (D.u x.gate.space.cont) := by unfold XObject.enc loadBox; rfl
@[go_sem] theorem XObject.tk_Gate_Space_Cont (x : XObject) : takeD false 1 (x.enc.cells.drop 45) = .d (D.u x.gate.space.cont) := by unfold XObject.enc takeD D.cells; rfl
@[go_sem] theorem XObject.st_Gate_Space_Cont (x : XObject) (v : Int) : storeBox 45 (.d (D.u v)) (.d x.enc) = .d ({ x with gate := { x.gate with space := { x.gate.space with cont := v } } } : XObject).enc := by unfold storeBox; rfl
@[go_sem] theorem XObject.ld_Gate_Space_Id (x : XObject) : loadBox false 46 1 (.d x.enc) = .d (D.u x.gate.space.id) := by unfold XObject.enc loadBox; rfl
@[go_sem] theorem XObject.tk_Gate_Space_Id (x : XObject) : takeD false 1 (x.enc.cells.drop 46) = .d (D.u x.gate.space.id) := by unfold XObject.enc takeD D.cells; rfl
@[go_sem] theorem XObject.st_Gate_Space_Id (x : XObject) (v : Int) : storeBox 46 (.d (D.u v)) (.d x.enc) = .d ({ x with gate := { x.gate with space := { x.gate.space with id := v } } } : XObject).enc := by unfold storeBox; rfl
@[go_sem] theorem XObject.ld_Gate_Pc (x : XObject) : loadBox false 47 1 (.d x.enc) = .d (D.u x.gate.pc) := by unfold XObject.enc loadBox; rfl
@[go_sem] theorem XObject.tk_Gate_Pc (x : XObject) : takeD false 1 (x.enc.cells.drop 47) = .d (D.u x.gate.pc) := by unfold XObject.enc takeD D.cells; rfl
@[go_sem] theorem XObject.st_Gate_Pc (x : XObject) (v : Int) : storeBox 47 (.d (D.u v)) (.d x.enc) = .d ({ x with gate := { x.gate with pc := v } } : XObject).enc := by unfold storeBox; rfl
@[go_sem] theorem XObject.ld_Gate_Arg (x : XObject) : loadBox false 48 1 (.d x.enc) = .d (D.u x.gate.arg) := by unfold XObject.enc loadBox; rfl
@[go_sem] theorem XObject.tk_Gate_Arg (x : XObject) : takeD false 1 (x.enc.cells.drop 48) = .d (D.u x.gate.arg) := by unfold XObject.enc takeD D.cells; rfl
@[go_sem] theorem XObject.st_Gate_Arg (x : XObject) (v : Int) : storeBox 48 (.d (D.u v)) (.d x.enc) = .d ({ x with gate := { x.gate with arg := v } } : XObject).enc := by unfold storeBox; rfl
@[go_sem] theorem XObject.ld_In (x : XObject) : loadBox false 49 1 (.d x.enc) = .d (encL D.u x.in') := by unfold XObject.enc loadBox; rfl
@[go_sem] theorem XObject.tk_In (x : XObject) : takeD false 1 (x.enc.cells.drop 49) = .d (encL D.u x.in') := by unfold XObject.enc takeD D.cells; rfl
@[go_sem] theorem XObject.st_In (x : XObject) (v : List Int) : storeBox 49 (.d (encL D.u v)) (.d x.enc) = .d ({ x with in' := v } : XObject).enc := by unfold storeBox; rfl
@[go_sem] theorem XObject.ld_Out (x : XObject) : loadBox false 50 1 (.d x.enc) = .d (encL D.u x.out) := by unfold XObject.enc loadBox; rfl
@[go_sem] theorem XObject.tk_Out (x : XObject) : takeD false 1 (x.enc.cells.drop 50) = .d (encL D.u x.out) := by unfold XObject.enc takeD D.cells; rfl
@[go_sem] theorem XObject.st_Out (x : XObject) (v : List Int) : storeBox 50 (.d (encL D.u v)) (.d x.enc) = .d ({ x with out := v } : XObject).enc := by unfold storeBox; rfl
structure XWorld where
  time : Int
  key : Int
  root : Int
  objects : List XObject
def XWorld.zero : XWorld := ⟨0, 0, 0, []⟩
def XWorld.enc (x : XWorld) : D := .agg [D.i x.time, D.u x.key, D.u x.root, encL XObject.enc x.objects]
@[go_sem] theorem XWorld.len (x : XWorld) : x.enc.cells.length = 4 := rfl
@[go_sem] theorem XWorld.vlen (x : XWorld) : (V.d x.enc).cells.length = 4 := rfl
@[go_sem] theorem XWorld.zcells : (V.d XWorld.zero.enc).cells = [.d (D.i XWorld.zero.time), .d (D.u XWorld.zero.key), .d (D.u XWorld.zero.root), .d (encL XObject.enc XWorld.zero.objects)] := rfl
@[go_sem] theorem XWorld.z_time : XWorld.zero.time = 0 := rfl
@[go_sem] theorem XWorld.z_key : XWorld.zero.key = 0 := rfl
@[go_sem] theorem XWorld.z_root : XWorld.zero.root = 0 := rfl
@[go_sem] theorem XWorld.z_objects : XWorld.zero.objects = [] := rfl
@[go_sem] theorem XWorld.isStr (x : XWorld) : (V.d x.enc).isStr = true := rfl
theorem XWorld.agg (x : XWorld) : x.enc = .agg [D.i x.time, D.u x.key, D.u x.root, encL XObject.enc x.objects] := rfl
@[go_sem] theorem XWorld.toD (x : XWorld) : V.toD (V.d x.enc) = some x.enc := rfl
@[go_sem] theorem XWorld.ld (x : XWorld) : loadBox true 0 4 (.d x.enc) = .d x.enc := by unfold XWorld.enc loadBox; rfl
@[go_sem] theorem XWorld.tk (x : XWorld) : takeD true 4 x.enc.cells = .d x.enc := by unfold XWorld.enc takeD D.cells; rfl
@[go_sem] theorem XWorld.st (x : XWorld) (c : V) (h : c.cells.length = 4) : storeBox 0 (.d x.enc) c = .d x.enc := by unfold storeBox; rw [if_pos ⟨rfl, by rw [h]; rfl⟩]
@[go_sem] theorem XWorld.ld_Time (x : XWorld) : loadBox false 0 1 (.d x.enc) = .d (D.i x.time) := by unfold XWorld.enc loadBox; rfl
@[go_sem] theorem XWorld.tk_Time (x : XWorld) : takeD false 1 (x.enc.cells) = .d (D.i x.time) := by unfold XWorld.enc takeD D.cells; rfl
@[go_sem] theorem XWorld.st_Time (x : XWorld) (v : Int) : storeBox 0 (.d (D.i v)) (.d x.enc) = .d ({ x with time := v } : XWorld).enc := by unfold storeBox; rfl
@[go_sem] theorem XWorld.ld_Key (x : XWorld) : loadBox false 1 1 (.d x.enc) = .d (D.u x.key) := by unfold XWorld.enc loadBox; rfl
@[go_sem] theorem XWorld.tk_Key (x : XWorld) : takeD false 1 (x.enc.cells.drop 1) = .d (D.u x.key) := by unfold XWorld.enc takeD D.cells; rfl
@[go_sem] theorem XWorld.st_Key (x : XWorld) (v : Int) : storeBox 1 (.d (D.u v)) (.d x.enc) = .d ({ x with key := v } : XWorld).enc := by unfold storeBox; rfl
@[go_sem] theorem XWorld.ld_Root (x : XWorld) : loadBox false 2 1 (.d x.enc) = .d (D.u x.root) := by unfold XWorld.enc loadBox; rfl
@[go_sem] theorem XWorld.tk_Root (x : XWorld) : takeD false 1 (x.enc.cells.drop 2) = .d (D.u x.root) := by unfold XWorld.enc takeD D.cells; rfl
@[go_sem] theorem XWorld.st_Root (x : XWorld) (v : Int) : storeBox 2 (.d (D.u v)) (.d x.enc) = .d ({ x with root := v } : XWorld).enc := by unfold storeBox; rfl
@[go_sem] theorem XWorld.ld_Objects (x : XWorld) : loadBox false 3 1 (.d x.enc) = .d (encL XObject.enc x.objects) := by unfold XWorld.enc loadBox; rfl
@[go_sem] theorem XWorld.tk_Objects (x : XWorld) : takeD false 1 (x.enc.cells.drop 3) = .d (encL XObject.enc x.objects) := by unfold XWorld.enc takeD D.cells; rfl
@[go_sem] theorem XWorld.st_Objects (x : XWorld) (v : List XObject) : storeBox 3 (.d (encL XObject.enc v)) (.d x.enc) = .d ({ x with objects := v } : XWorld).enc := by unfold storeBox; rfl
structure XFrame where
  owner : Int
  page : Int
def XFrame.zero : XFrame := ⟨0, 0⟩
def XFrame.enc (x : XFrame) : D := .agg [D.u x.owner, D.i x.page]
@[go_sem] theorem XFrame.len (x : XFrame) : x.enc.cells.length = 2 := rfl
@[go_sem] theorem XFrame.vlen (x : XFrame) : (V.d x.enc).cells.length = 2 := rfl
@[go_sem] theorem XFrame.zcells : (V.d XFrame.zero.enc).cells = [.d (D.u XFrame.zero.owner), .d (D.i XFrame.zero.page)] := rfl
@[go_sem] theorem XFrame.z_owner : XFrame.zero.owner = 0 := rfl
@[go_sem] theorem XFrame.z_page : XFrame.zero.page = 0 := rfl
@[go_sem] theorem XFrame.isStr (x : XFrame) : (V.d x.enc).isStr = true := rfl
theorem XFrame.agg (x : XFrame) : x.enc = .agg [D.u x.owner, D.i x.page] := rfl
@[go_sem] theorem XFrame.toD (x : XFrame) : V.toD (V.d x.enc) = some x.enc := rfl
@[go_sem] theorem XFrame.ld (x : XFrame) : loadBox true 0 2 (.d x.enc) = .d x.enc := by unfold XFrame.enc loadBox; rfl
@[go_sem] theorem XFrame.tk (x : XFrame) : takeD true 2 x.enc.cells = .d x.enc := by unfold XFrame.enc takeD D.cells; rfl
@[go_sem] theorem XFrame.st (x : XFrame) (c : V) (h : c.cells.length = 2) : storeBox 0 (.d x.enc) c = .d x.enc := by unfold storeBox; rw [if_pos ⟨rfl, by rw [h]; rfl⟩]
@[go_sem] theorem XFrame.ld_Owner (x : XFrame) : loadBox false 0 1 (.d x.enc) = .d (D.u x.owner) := by unfold XFrame.enc loadBox; rfl
@[go_sem] theorem XFrame.tk_Owner (x : XFrame) : takeD false 1 (x.enc.cells) = .d (D.u x.owner) := by unfold XFrame.enc takeD D.cells; rfl
@[go_sem] theorem XFrame.st_Owner (x : XFrame) (v : Int) : storeBox 0 (.d (D.u v)) (.d x.enc) = .d ({ x with owner := v } : XFrame).enc := by unfold storeBox; rfl
@[go_sem] theorem XFrame.ld_Page (x : XFrame) : loadBox false 1 1 (.d x.enc) = .d (D.i x.page) := by unfold XFrame.enc loadBox; rfl
@[go_sem] theorem XFrame.tk_Page (x : XFrame) : takeD false 1 (x.enc.cells.drop 1) = .d (D.i x.page) := by unfold XFrame.enc takeD D.cells; rfl
@[go_sem] theorem XFrame.st_Page (x : XFrame) (v : Int) : storeBox 1 (.d (D.i v)) (.d x.enc) = .d ({ x with page := v } : XFrame).enc := by unfold storeBox; rfl
structure XReal where
  shell : XWorld
  sizes : List Int
  frames : List XFrame
  mem : List (Fin 16 → Int)
def XReal.zero : XReal := ⟨XWorld.zero, [], [], []⟩
def XReal.enc (x : XReal) : D := .agg [D.i x.shell.time, D.u x.shell.key, D.u x.shell.root, encL XObject.enc x.shell.objects, encL D.i x.sizes, encL XFrame.enc x.frames, encL encA16_u64 x.mem]
@[go_sem] theorem XReal.len (x : XReal) : x.enc.cells.length = 7 := rfl
@[go_sem] theorem XReal.vlen (x : XReal) : (V.d x.enc).cells.length = 7 := rfl
@[go_sem] theorem XReal.zcells : (V.d XReal.zero.enc).cells = [.d (D.i XReal.zero.shell.time), .d (D.u XReal.zero.shell.key), .d (D.u XReal.zero.shell.root), .d (encL XObject.enc XReal.zero.shell.objects), .d (encL D.i XReal.zero.sizes), .d (encL XFrame.enc XReal.zero.frames), .d (encL encA16_u64 XReal.zero.mem)] := rfl
@[go_sem] theorem XReal.z_shell : XReal.zero.shell = XWorld.zero := rfl
@[go_sem] theorem XReal.z_sizes : XReal.zero.sizes = [] := rfl
@[go_sem] theorem XReal.z_frames : XReal.zero.frames = [] := rfl
@[go_sem] theorem XReal.z_mem : XReal.zero.mem = [] := rfl
@[go_sem] theorem XReal.isStr (x : XReal) : (V.d x.enc).isStr = true := rfl
theorem XReal.agg (x : XReal) : x.enc = .agg [D.i x.shell.time, D.u x.shell.key, D.u x.shell.root, encL XObject.enc x.shell.objects, encL D.i x.sizes, encL XFrame.enc x.frames, encL encA16_u64 x.mem] := rfl
@[go_sem] theorem XReal.toD (x : XReal) : V.toD (V.d x.enc) = some x.enc := rfl
@[go_sem] theorem XReal.ld (x : XReal) : loadBox true 0 7 (.d x.enc) = .d x.enc := by unfold XReal.enc loadBox; rfl
@[go_sem] theorem XReal.tk (x : XReal) : takeD true 7 x.enc.cells = .d x.enc := by unfold XReal.enc takeD D.cells; rfl
@[go_sem] theorem XReal.st (x : XReal) (c : V) (h : c.cells.length = 7) : storeBox 0 (.d x.enc) c = .d x.enc := by unfold storeBox; rw [if_pos ⟨rfl, by rw [h]; rfl⟩]
@[go_sem] theorem XReal.ld_Shell (x : XReal) : loadBox true 0 4 (.d x.enc) = .d (XWorld.enc x.shell) := by unfold XReal.enc loadBox; rfl
@[go_sem] theorem XReal.tk_Shell (x : XReal) : takeD true 4 (x.enc.cells) = .d (XWorld.enc x.shell) := by unfold XReal.enc takeD D.cells; rfl
@[go_sem] theorem XReal.st_Shell (x : XReal) (v : XWorld) : storeBox 0 (.d (XWorld.enc v)) (.d x.enc) = .d ({ x with shell := v }).enc := by unfold storeBox; rfl
@[go_sem] theorem XReal.ld_Shell_Time (x : XReal) : loadBox false 0 1 (.d x.enc) = .d (D.i x.shell.time) := by unfold XReal.enc loadBox; rfl
@[go_sem] theorem XReal.tk_Shell_Time (x : XReal) : takeD false 1 (x.enc.cells) = .d (D.i x.shell.time) := by unfold XReal.enc takeD D.cells; rfl
@[go_sem] theorem XReal.st_Shell_Time (x : XReal) (v : Int) : storeBox 0 (.d (D.i v)) (.d x.enc) = .d ({ x with shell := { x.shell with time := v } } : XReal).enc := by unfold storeBox; rfl
@[go_sem] theorem XReal.ld_Shell_Key (x : XReal) : loadBox false 1 1 (.d x.enc) = .d (D.u x.shell.key) := by unfold XReal.enc loadBox; rfl
@[go_sem] theorem XReal.tk_Shell_Key (x : XReal) : takeD false 1 (x.enc.cells.drop 1) = .d (D.u x.shell.key) := by unfold XReal.enc takeD D.cells; rfl
@[go_sem] theorem XReal.st_Shell_Key (x : XReal) (v : Int) : storeBox 1 (.d (D.u v)) (.d x.enc) = .d ({ x with shell := { x.shell with key := v } } : XReal).enc := by unfold storeBox; rfl
@[go_sem] theorem XReal.ld_Shell_Root (x : XReal) : loadBox false 2 1 (.d x.enc) = .d (D.u x.shell.root) := by unfold XReal.enc loadBox; rfl
@[go_sem] theorem XReal.tk_Shell_Root (x : XReal) : takeD false 1 (x.enc.cells.drop 2) = .d (D.u x.shell.root) := by unfold XReal.enc takeD D.cells; rfl
@[go_sem] theorem XReal.st_Shell_Root (x : XReal) (v : Int) : storeBox 2 (.d (D.u v)) (.d x.enc) = .d ({ x with shell := { x.shell with root := v } } : XReal).enc := by unfold storeBox; rfl
@[go_sem] theorem XReal.ld_Shell_Objects (x : XReal) : loadBox false 3 1 (.d x.enc) = .d (encL XObject.enc x.shell.objects) := by unfold XReal.enc loadBox; rfl
@[go_sem] theorem XReal.tk_Shell_Objects (x : XReal) : takeD false 1 (x.enc.cells.drop 3) = .d (encL XObject.enc x.shell.objects) := by unfold XReal.enc takeD D.cells; rfl
@[go_sem] theorem XReal.st_Shell_Objects (x : XReal) (v : List XObject) : storeBox 3 (.d (encL XObject.enc v)) (.d x.enc) = .d ({ x with shell := { x.shell with objects := v } } : XReal).enc := by unfold storeBox; rfl
@[go_sem] theorem XReal.ld_Sizes (x : XReal) : loadBox false 4 1 (.d x.enc) = .d (encL D.i x.sizes) := by unfold XReal.enc loadBox; rfl
@[go_sem] theorem XReal.tk_Sizes (x : XReal) : takeD false 1 (x.enc.cells.drop 4) = .d (encL D.i x.sizes) := by unfold XReal.enc takeD D.cells; rfl
@[go_sem] theorem XReal.st_Sizes (x : XReal) (v : List Int) : storeBox 4 (.d (encL D.i v)) (.d x.enc) = .d ({ x with sizes := v } : XReal).enc := by unfold storeBox; rfl
@[go_sem] theorem XReal.ld_Frames (x : XReal) : loadBox false 5 1 (.d x.enc) = .d (encL XFrame.enc x.frames) := by unfold XReal.enc loadBox; rfl
@[go_sem] theorem XReal.tk_Frames (x : XReal) : takeD false 1 (x.enc.cells.drop 5) = .d (encL XFrame.enc x.frames) := by unfold XReal.enc takeD D.cells; rfl
@[go_sem] theorem XReal.st_Frames (x : XReal) (v : List XFrame) : storeBox 5 (.d (encL XFrame.enc v)) (.d x.enc) = .d ({ x with frames := v } : XReal).enc := by unfold storeBox; rfl
@[go_sem] theorem XReal.ld_Mem (x : XReal) : loadBox false 6 1 (.d x.enc) = .d (encL encA16_u64 x.mem) := by unfold XReal.enc loadBox; rfl
@[go_sem] theorem XReal.tk_Mem (x : XReal) : takeD false 1 (x.enc.cells.drop 6) = .d (encL encA16_u64 x.mem) := by unfold XReal.enc takeD D.cells; rfl
@[go_sem] theorem XReal.st_Mem (x : XReal) (v : List (Fin 16 → Int)) : storeBox 6 (.d (encL encA16_u64 v)) (.d x.enc) = .d ({ x with mem := v } : XReal).enc := by unfold storeBox; rfl
structure XPartMap where
  va : Int
  n : Int
  part : Int
  off : Int
  write : Bool
def XPartMap.zero : XPartMap := ⟨0, 0, 0, 0, false⟩
def XPartMap.enc (x : XPartMap) : D := .agg [D.i x.va, D.i x.n, D.i x.part, D.i x.off, D.b x.write]
@[go_sem] theorem XPartMap.len (x : XPartMap) : x.enc.cells.length = 5 := rfl
@[go_sem] theorem XPartMap.vlen (x : XPartMap) : (V.d x.enc).cells.length = 5 := rfl
@[go_sem] theorem XPartMap.zcells : (V.d XPartMap.zero.enc).cells = [.d (D.i XPartMap.zero.va), .d (D.i XPartMap.zero.n), .d (D.i XPartMap.zero.part), .d (D.i XPartMap.zero.off), .d (D.b XPartMap.zero.write)] := rfl
@[go_sem] theorem XPartMap.z_va : XPartMap.zero.va = 0 := rfl
@[go_sem] theorem XPartMap.z_n : XPartMap.zero.n = 0 := rfl
@[go_sem] theorem XPartMap.z_part : XPartMap.zero.part = 0 := rfl
@[go_sem] theorem XPartMap.z_off : XPartMap.zero.off = 0 := rfl
@[go_sem] theorem XPartMap.z_write : XPartMap.zero.write = false := rfl
@[go_sem] theorem XPartMap.isStr (x : XPartMap) : (V.d x.enc).isStr = true := rfl
theorem XPartMap.agg (x : XPartMap) : x.enc = .agg [D.i x.va, D.i x.n, D.i x.part, D.i x.off, D.b x.write] := rfl
@[go_sem] theorem XPartMap.toD (x : XPartMap) : V.toD (V.d x.enc) = some x.enc := rfl
@[go_sem] theorem XPartMap.ld (x : XPartMap) : loadBox true 0 5 (.d x.enc) = .d x.enc := by unfold XPartMap.enc loadBox; rfl
@[go_sem] theorem XPartMap.tk (x : XPartMap) : takeD true 5 x.enc.cells = .d x.enc := by unfold XPartMap.enc takeD D.cells; rfl
@[go_sem] theorem XPartMap.st (x : XPartMap) (c : V) (h : c.cells.length = 5) : storeBox 0 (.d x.enc) c = .d x.enc := by unfold storeBox; rw [if_pos ⟨rfl, by rw [h]; rfl⟩]
@[go_sem] theorem XPartMap.ld_Va (x : XPartMap) : loadBox false 0 1 (.d x.enc) = .d (D.i x.va) := by unfold XPartMap.enc loadBox; rfl
@[go_sem] theorem XPartMap.tk_Va (x : XPartMap) : takeD false 1 (x.enc.cells) = .d (D.i x.va) := by unfold XPartMap.enc takeD D.cells; rfl
@[go_sem] theorem XPartMap.st_Va (x : XPartMap) (v : Int) : storeBox 0 (.d (D.i v)) (.d x.enc) = .d ({ x with va := v } : XPartMap).enc := by unfold storeBox; rfl
@[go_sem] theorem XPartMap.ld_N (x : XPartMap) : loadBox false 1 1 (.d x.enc) = .d (D.i x.n) := by unfold XPartMap.enc loadBox; rfl
@[go_sem] theorem XPartMap.tk_N (x : XPartMap) : takeD false 1 (x.enc.cells.drop 1) = .d (D.i x.n) := by unfold XPartMap.enc takeD D.cells; rfl
@[go_sem] theorem XPartMap.st_N (x : XPartMap) (v : Int) : storeBox 1 (.d (D.i v)) (.d x.enc) = .d ({ x with n := v } : XPartMap).enc := by unfold storeBox; rfl
@[go_sem] theorem XPartMap.ld_Part (x : XPartMap) : loadBox false 2 1 (.d x.enc) = .d (D.i x.part) := by unfold XPartMap.enc loadBox; rfl
@[go_sem] theorem XPartMap.tk_Part (x : XPartMap) : takeD false 1 (x.enc.cells.drop 2) = .d (D.i x.part) := by unfold XPartMap.enc takeD D.cells; rfl
@[go_sem] theorem XPartMap.st_Part (x : XPartMap) (v : Int) : storeBox 2 (.d (D.i v)) (.d x.enc) = .d ({ x with part := v } : XPartMap).enc := by unfold storeBox; rfl
@[go_sem] theorem XPartMap.ld_Off (x : XPartMap) : loadBox false 3 1 (.d x.enc) = .d (D.i x.off) := by unfold XPartMap.enc loadBox; rfl
@[go_sem] theorem XPartMap.tk_Off (x : XPartMap) : takeD false 1 (x.enc.cells.drop 3) = .d (D.i x.off) := by unfold XPartMap.enc takeD D.cells; rfl
@[go_sem] theorem XPartMap.st_Off (x : XPartMap) (v : Int) : storeBox 3 (.d (D.i v)) (.d x.enc) = .d ({ x with off := v } : XPartMap).enc := by unfold storeBox; rfl
@[go_sem] theorem XPartMap.ld_Write (x : XPartMap) : loadBox false 4 1 (.d x.enc) = .d (D.b x.write) := by unfold XPartMap.enc loadBox; rfl
@[go_sem] theorem XPartMap.tk_Write (x : XPartMap) : takeD false 1 (x.enc.cells.drop 4) = .d (D.b x.write) := by unfold XPartMap.enc takeD D.cells; rfl
@[go_sem] theorem XPartMap.st_Write (x : XPartMap) (v : Bool) : storeBox 4 (.d (D.b v)) (.d x.enc) = .d ({ x with write := v } : XPartMap).enc := by unfold storeBox; rfl
structure XPart where
  kind : Int
  in' : Int
  also : List Int
  label : List XPair
  clear : List XPair
  quota : Int
  words : List Int
  maps : List XPartMap
  space : Int
  pc : Int
  regs : Fin 8 → Int
  grant : List XPair
  arg : Int
  vector : Int
def XPart.zero : XPart := ⟨0, 0, [], [], [], 0, [], [], 0, 0, (fun _ => 0), [], 0, 0⟩
def XPart.enc (x : XPart) : D := .agg [D.i x.kind, D.i x.in', encL D.i x.also, encL XPair.enc x.label, encL XPair.enc x.clear, D.i x.quota, encL D.u x.words, encL XPartMap.enc x.maps, D.i x.space, D.u x.pc, D.u (x.regs 0), D.u (x.regs 1), D.u (x.regs 2), D.u (x.regs 3), D.u (x.regs 4), D.u (x.regs 5), D.u (x.regs 6), D.u (x.regs 7), encL XPair.enc x.grant, D.u x.arg, D.u x.vector]
@[go_sem] theorem XPart.len (x : XPart) : x.enc.cells.length = 21 := rfl
@[go_sem] theorem XPart.vlen (x : XPart) : (V.d x.enc).cells.length = 21 := rfl
@[go_sem] theorem XPart.zcells : (V.d XPart.zero.enc).cells = [.d (D.i XPart.zero.kind), .d (D.i XPart.zero.in'), .d (encL D.i XPart.zero.also), .d (encL XPair.enc XPart.zero.label), .d (encL XPair.enc XPart.zero.clear), .d (D.i XPart.zero.quota), .d (encL D.u XPart.zero.words), .d (encL XPartMap.enc XPart.zero.maps), .d (D.i XPart.zero.space), .d (D.u XPart.zero.pc), .d (D.u (XPart.zero.regs 0)), .d (D.u (XPart.zero.regs 1)), .d (D.u (XPart.zero.regs 2)), .d (D.u (XPart.zero.regs 3)), .d (D.u (XPart.zero.regs 4)), .d (D.u (XPart.zero.regs 5)), .d (D.u (XPart.zero.regs 6)), .d (D.u (XPart.zero.regs 7)), .d (encL XPair.enc XPart.zero.grant), .d (D.u XPart.zero.arg), .d (D.u XPart.zero.vector)] := rfl
@[go_sem] theorem XPart.z_kind : XPart.zero.kind = 0 := rfl
@[go_sem] theorem XPart.z_in : XPart.zero.in' = 0 := rfl
@[go_sem] theorem XPart.z_also : XPart.zero.also = [] := rfl
@[go_sem] theorem XPart.z_label : XPart.zero.label = [] := rfl
@[go_sem] theorem XPart.z_clear : XPart.zero.clear = [] := rfl
@[go_sem] theorem XPart.z_quota : XPart.zero.quota = 0 := rfl
@[go_sem] theorem XPart.z_words : XPart.zero.words = [] := rfl
@[go_sem] theorem XPart.z_maps : XPart.zero.maps = [] := rfl
@[go_sem] theorem XPart.z_space : XPart.zero.space = 0 := rfl
@[go_sem] theorem XPart.z_pc : XPart.zero.pc = 0 := rfl
@[go_sem] theorem XPart.z_regs : XPart.zero.regs = (fun _ => 0) := rfl
@[go_sem] theorem XPart.z_grant : XPart.zero.grant = [] := rfl
@[go_sem] theorem XPart.z_arg : XPart.zero.arg = 0 := rfl
@[go_sem] theorem XPart.z_vector : XPart.zero.vector = 0 := rfl
@[go_sem] theorem XPart.isStr (x : XPart) : (V.d x.enc).isStr = true := rfl
theorem XPart.agg (x : XPart) : x.enc = .agg [D.i x.kind, D.i x.in', encL D.i x.also, encL XPair.enc x.label, encL XPair.enc x.clear, D.i x.quota, encL D.u x.words, encL XPartMap.enc x.maps, D.i x.space, D.u x.pc, D.u (x.regs 0), D.u (x.regs 1), D.u (x.regs 2), D.u (x.regs 3), D.u (x.regs 4), D.u (x.regs 5), D.u (x.regs 6), D.u (x.regs 7), encL XPair.enc x.grant, D.u x.arg, D.u x.vector] := rfl
@[go_sem] theorem XPart.toD (x : XPart) : V.toD (V.d x.enc) = some x.enc := rfl
@[go_sem] theorem XPart.ld (x : XPart) : loadBox true 0 21 (.d x.enc) = .d x.enc := by unfold XPart.enc loadBox; rfl
@[go_sem] theorem XPart.tk (x : XPart) : takeD true 21 x.enc.cells = .d x.enc := by unfold XPart.enc takeD D.cells; rfl
@[go_sem] theorem XPart.st (x : XPart) (c : V) (h : c.cells.length = 21) : storeBox 0 (.d x.enc) c = .d x.enc := by unfold storeBox; rw [if_pos ⟨rfl, by rw [h]; rfl⟩]
@[go_sem] theorem XPart.ld_Kind (x : XPart) : loadBox false 0 1 (.d x.enc) = .d (D.i x.kind) := by unfold XPart.enc loadBox; rfl
@[go_sem] theorem XPart.tk_Kind (x : XPart) : takeD false 1 (x.enc.cells) = .d (D.i x.kind) := by unfold XPart.enc takeD D.cells; rfl
@[go_sem] theorem XPart.st_Kind (x : XPart) (v : Int) : storeBox 0 (.d (D.i v)) (.d x.enc) = .d ({ x with kind := v } : XPart).enc := by unfold storeBox; rfl
@[go_sem] theorem XPart.ld_In (x : XPart) : loadBox false 1 1 (.d x.enc) = .d (D.i x.in') := by unfold XPart.enc loadBox; rfl
@[go_sem] theorem XPart.tk_In (x : XPart) : takeD false 1 (x.enc.cells.drop 1) = .d (D.i x.in') := by unfold XPart.enc takeD D.cells; rfl
@[go_sem] theorem XPart.st_In (x : XPart) (v : Int) : storeBox 1 (.d (D.i v)) (.d x.enc) = .d ({ x with in' := v } : XPart).enc := by unfold storeBox; rfl
@[go_sem] theorem XPart.ld_Also (x : XPart) : loadBox false 2 1 (.d x.enc) = .d (encL D.i x.also) := by unfold XPart.enc loadBox; rfl
@[go_sem] theorem XPart.tk_Also (x : XPart) : takeD false 1 (x.enc.cells.drop 2) = .d (encL D.i x.also) := by unfold XPart.enc takeD D.cells; rfl
@[go_sem] theorem XPart.st_Also (x : XPart) (v : List Int) : storeBox 2 (.d (encL D.i v)) (.d x.enc) = .d ({ x with also := v } : XPart).enc := by unfold storeBox; rfl
@[go_sem] theorem XPart.ld_Label (x : XPart) : loadBox false 3 1 (.d x.enc) = .d (encL XPair.enc x.label) := by unfold XPart.enc loadBox; rfl
@[go_sem] theorem XPart.tk_Label (x : XPart) : takeD false 1 (x.enc.cells.drop 3) = .d (encL XPair.enc x.label) := by unfold XPart.enc takeD D.cells; rfl
@[go_sem] theorem XPart.st_Label (x : XPart) (v : List XPair) : storeBox 3 (.d (encL XPair.enc v)) (.d x.enc) = .d ({ x with label := v } : XPart).enc := by unfold storeBox; rfl
@[go_sem] theorem XPart.ld_Clear (x : XPart) : loadBox false 4 1 (.d x.enc) = .d (encL XPair.enc x.clear) := by unfold XPart.enc loadBox; rfl
@[go_sem] theorem XPart.tk_Clear (x : XPart) : takeD false 1 (x.enc.cells.drop 4) = .d (encL XPair.enc x.clear) := by unfold XPart.enc takeD D.cells; rfl
@[go_sem] theorem XPart.st_Clear (x : XPart) (v : List XPair) : storeBox 4 (.d (encL XPair.enc v)) (.d x.enc) = .d ({ x with clear := v } : XPart).enc := by unfold storeBox; rfl
@[go_sem] theorem XPart.ld_Quota (x : XPart) : loadBox false 5 1 (.d x.enc) = .d (D.i x.quota) := by unfold XPart.enc loadBox; rfl
@[go_sem] theorem XPart.tk_Quota (x : XPart) : takeD false 1 (x.enc.cells.drop 5) = .d (D.i x.quota) := by unfold XPart.enc takeD D.cells; rfl
@[go_sem] theorem XPart.st_Quota (x : XPart) (v : Int) : storeBox 5 (.d (D.i v)) (.d x.enc) = .d ({ x with quota := v } : XPart).enc := by unfold storeBox; rfl
@[go_sem] theorem XPart.ld_Words (x : XPart) : loadBox false 6 1 (.d x.enc) = .d (encL D.u x.words) := by unfold XPart.enc loadBox; rfl
@[go_sem] theorem XPart.tk_Words (x : XPart) : takeD false 1 (x.enc.cells.drop 6) = .d (encL D.u x.words) := by unfold XPart.enc takeD D.cells; rfl
@[go_sem] theorem XPart.st_Words (x : XPart) (v : List Int) : storeBox 6 (.d (encL D.u v)) (.d x.enc) = .d ({ x with words := v } : XPart).enc := by unfold storeBox; rfl
@[go_sem] theorem XPart.ld_Maps (x : XPart) : loadBox false 7 1 (.d x.enc) = .d (encL XPartMap.enc x.maps) := by unfold XPart.enc loadBox; rfl
@[go_sem] theorem XPart.tk_Maps (x : XPart) : takeD false 1 (x.enc.cells.drop 7) = .d (encL XPartMap.enc x.maps) := by unfold XPart.enc takeD D.cells; rfl
@[go_sem] theorem XPart.st_Maps (x : XPart) (v : List XPartMap) : storeBox 7 (.d (encL XPartMap.enc v)) (.d x.enc) = .d ({ x with maps := v } : XPart).enc := by unfold storeBox; rfl
@[go_sem] theorem XPart.ld_Space (x : XPart) : loadBox false 8 1 (.d x.enc) = .d (D.i x.space) := by unfold XPart.enc loadBox; rfl
@[go_sem] theorem XPart.tk_Space (x : XPart) : takeD false 1 (x.enc.cells.drop 8) = .d (D.i x.space) := by unfold XPart.enc takeD D.cells; rfl
@[go_sem] theorem XPart.st_Space (x : XPart) (v : Int) : storeBox 8 (.d (D.i v)) (.d x.enc) = .d ({ x with space := v } : XPart).enc := by unfold storeBox; rfl
@[go_sem] theorem XPart.ld_Pc (x : XPart) : loadBox false 9 1 (.d x.enc) = .d (D.u x.pc) := by unfold XPart.enc loadBox; rfl
@[go_sem] theorem XPart.tk_Pc (x : XPart) : takeD false 1 (x.enc.cells.drop 9) = .d (D.u x.pc) := by unfold XPart.enc takeD D.cells; rfl
@[go_sem] theorem XPart.st_Pc (x : XPart) (v : Int) : storeBox 9 (.d (D.u v)) (.d x.enc) = .d ({ x with pc := v } : XPart).enc := by unfold storeBox; rfl
@[go_sem] theorem XPart.ld_Regs (x : XPart) : loadBox true 10 8 (.d x.enc) = .d (encA8_u64 x.regs) := by unfold XPart.enc loadBox; rfl
@[go_sem] theorem XPart.tk_Regs (x : XPart) : takeD true 8 (x.enc.cells.drop 10) = .d (encA8_u64 x.regs) := by unfold XPart.enc takeD D.cells; rfl
@[go_sem] theorem XPart.ld_Regs_0 (x : XPart) : loadBox false 10 1 (.d x.enc) = .d (D.u (x.regs 0)) := by unfold XPart.enc loadBox; rfl
@[go_sem] theorem XPart.tk_Regs_0 (x : XPart) : takeD false 1 (x.enc.cells.drop 10) = .d (D.u (x.regs 0)) := by unfold XPart.enc takeD D.cells; rfl
@[go_sem] theorem XPart.ld_Regs_1 (x : XPart) : loadBox false 11 1 (.d x.enc) = .d (D.u (x.regs 1)) := by unfold XPart.enc loadBox; rfl
@[go_sem] theorem XPart.tk_Regs_1 (x : XPart) : takeD false 1 (x.enc.cells.drop 11) = .d (D.u (x.regs 1)) := by unfold XPart.enc takeD D.cells; rfl
@[go_sem] theorem XPart.ld_Regs_2 (x : XPart) : loadBox false 12 1 (.d x.enc) = .d (D.u (x.regs 2)) := by unfold XPart.enc loadBox; rfl
@[go_sem] theorem XPart.tk_Regs_2 (x : XPart) : takeD false 1 (x.enc.cells.drop 12) = .d (D.u (x.regs 2)) := by unfold XPart.enc takeD D.cells; rfl
@[go_sem] theorem XPart.ld_Regs_3 (x : XPart) : loadBox false 13 1 (.d x.enc) = .d (D.u (x.regs 3)) := by unfold XPart.enc loadBox; rfl
@[go_sem] theorem XPart.tk_Regs_3 (x : XPart) : takeD false 1 (x.enc.cells.drop 13) = .d (D.u (x.regs 3)) := by unfold XPart.enc takeD D.cells; rfl
@[go_sem] theorem XPart.ld_Regs_4 (x : XPart) : loadBox false 14 1 (.d x.enc) = .d (D.u (x.regs 4)) := by unfold XPart.enc loadBox; rfl
@[go_sem] theorem XPart.tk_Regs_4 (x : XPart) : takeD false 1 (x.enc.cells.drop 14) = .d (D.u (x.regs 4)) := by unfold XPart.enc takeD D.cells; rfl
@[go_sem] theorem XPart.ld_Regs_5 (x : XPart) : loadBox false 15 1 (.d x.enc) = .d (D.u (x.regs 5)) := by unfold XPart.enc loadBox; rfl
@[go_sem] theorem XPart.tk_Regs_5 (x : XPart) : takeD false 1 (x.enc.cells.drop 15) = .d (D.u (x.regs 5)) := by unfold XPart.enc takeD D.cells; rfl
@[go_sem] theorem XPart.ld_Regs_6 (x : XPart) : loadBox false 16 1 (.d x.enc) = .d (D.u (x.regs 6)) := by unfold XPart.enc loadBox; rfl
@[go_sem] theorem XPart.tk_Regs_6 (x : XPart) : takeD false 1 (x.enc.cells.drop 16) = .d (D.u (x.regs 6)) := by unfold XPart.enc takeD D.cells; rfl
@[go_sem] theorem XPart.ld_Regs_7 (x : XPart) : loadBox false 17 1 (.d x.enc) = .d (D.u (x.regs 7)) := by unfold XPart.enc loadBox; rfl
@[go_sem] theorem XPart.tk_Regs_7 (x : XPart) : takeD false 1 (x.enc.cells.drop 17) = .d (D.u (x.regs 7)) := by unfold XPart.enc takeD D.cells; rfl
@[go_sem] theorem XPart.ld_Grant (x : XPart) : loadBox false 18 1 (.d x.enc) = .d (encL XPair.enc x.grant) := by unfold XPart.enc loadBox; rfl
@[go_sem] theorem XPart.tk_Grant (x : XPart) : takeD false 1 (x.enc.cells.drop 18) = .d (encL XPair.enc x.grant) := by unfold XPart.enc takeD D.cells; rfl
@[go_sem] theorem XPart.st_Grant (x : XPart) (v : List XPair) : storeBox 18 (.d (encL XPair.enc v)) (.d x.enc) = .d ({ x with grant := v } : XPart).enc := by unfold storeBox; rfl
@[go_sem] theorem XPart.ld_Arg (x : XPart) : loadBox false 19 1 (.d x.enc) = .d (D.u x.arg) := by unfold XPart.enc loadBox; rfl
@[go_sem] theorem XPart.tk_Arg (x : XPart) : takeD false 1 (x.enc.cells.drop 19) = .d (D.u x.arg) := by unfold XPart.enc takeD D.cells; rfl
@[go_sem] theorem XPart.st_Arg (x : XPart) (v : Int) : storeBox 19 (.d (D.u v)) (.d x.enc) = .d ({ x with arg := v } : XPart).enc := by unfold storeBox; rfl
@[go_sem] theorem XPart.ld_Vector (x : XPart) : loadBox false 20 1 (.d x.enc) = .d (D.u x.vector) := by unfold XPart.enc loadBox; rfl
@[go_sem] theorem XPart.tk_Vector (x : XPart) : takeD false 1 (x.enc.cells.drop 20) = .d (D.u x.vector) := by unfold XPart.enc takeD D.cells; rfl
@[go_sem] theorem XPart.st_Vector (x : XPart) (v : Int) : storeBox 20 (.d (D.u v)) (.d x.enc) = .d ({ x with vector := v } : XPart).enc := by unfold storeBox; rfl
structure XImage where
  key : Int
  label : List XPair
  quota : Int
  parts : List XPart
def XImage.zero : XImage := ⟨0, [], 0, []⟩
def XImage.enc (x : XImage) : D := .agg [D.u x.key, encL XPair.enc x.label, D.i x.quota, encL XPart.enc x.parts]
@[go_sem] theorem XImage.len (x : XImage) : x.enc.cells.length = 4 := rfl
@[go_sem] theorem XImage.vlen (x : XImage) : (V.d x.enc).cells.length = 4 := rfl
@[go_sem] theorem XImage.zcells : (V.d XImage.zero.enc).cells = [.d (D.u XImage.zero.key), .d (encL XPair.enc XImage.zero.label), .d (D.i XImage.zero.quota), .d (encL XPart.enc XImage.zero.parts)] := rfl
@[go_sem] theorem XImage.z_key : XImage.zero.key = 0 := rfl
@[go_sem] theorem XImage.z_label : XImage.zero.label = [] := rfl
@[go_sem] theorem XImage.z_quota : XImage.zero.quota = 0 := rfl
@[go_sem] theorem XImage.z_parts : XImage.zero.parts = [] := rfl
@[go_sem] theorem XImage.isStr (x : XImage) : (V.d x.enc).isStr = true := rfl
theorem XImage.agg (x : XImage) : x.enc = .agg [D.u x.key, encL XPair.enc x.label, D.i x.quota, encL XPart.enc x.parts] := rfl
@[go_sem] theorem XImage.toD (x : XImage) : V.toD (V.d x.enc) = some x.enc := rfl
@[go_sem] theorem XImage.ld (x : XImage) : loadBox true 0 4 (.d x.enc) = .d x.enc := by unfold XImage.enc loadBox; rfl
@[go_sem] theorem XImage.tk (x : XImage) : takeD true 4 x.enc.cells = .d x.enc := by unfold XImage.enc takeD D.cells; rfl
@[go_sem] theorem XImage.st (x : XImage) (c : V) (h : c.cells.length = 4) : storeBox 0 (.d x.enc) c = .d x.enc := by unfold storeBox; rw [if_pos ⟨rfl, by rw [h]; rfl⟩]
@[go_sem] theorem XImage.ld_Key (x : XImage) : loadBox false 0 1 (.d x.enc) = .d (D.u x.key) := by unfold XImage.enc loadBox; rfl
@[go_sem] theorem XImage.tk_Key (x : XImage) : takeD false 1 (x.enc.cells) = .d (D.u x.key) := by unfold XImage.enc takeD D.cells; rfl
@[go_sem] theorem XImage.st_Key (x : XImage) (v : Int) : storeBox 0 (.d (D.u v)) (.d x.enc) = .d ({ x with key := v } : XImage).enc := by unfold storeBox; rfl
@[go_sem] theorem XImage.ld_Label (x : XImage) : loadBox false 1 1 (.d x.enc) = .d (encL XPair.enc x.label) := by unfold XImage.enc loadBox; rfl
@[go_sem] theorem XImage.tk_Label (x : XImage) : takeD false 1 (x.enc.cells.drop 1) = .d (encL XPair.enc x.label) := by unfold XImage.enc takeD D.cells; rfl
@[go_sem] theorem XImage.st_Label (x : XImage) (v : List XPair) : storeBox 1 (.d (encL XPair.enc v)) (.d x.enc) = .d ({ x with label := v } : XImage).enc := by unfold storeBox; rfl
@[go_sem] theorem XImage.ld_Quota (x : XImage) : loadBox false 2 1 (.d x.enc) = .d (D.i x.quota) := by unfold XImage.enc loadBox; rfl
@[go_sem] theorem XImage.tk_Quota (x : XImage) : takeD false 1 (x.enc.cells.drop 2) = .d (D.i x.quota) := by unfold XImage.enc takeD D.cells; rfl
@[go_sem] theorem XImage.st_Quota (x : XImage) (v : Int) : storeBox 2 (.d (D.i v)) (.d x.enc) = .d ({ x with quota := v } : XImage).enc := by unfold storeBox; rfl
@[go_sem] theorem XImage.ld_Parts (x : XImage) : loadBox false 3 1 (.d x.enc) = .d (encL XPart.enc x.parts) := by unfold XImage.enc loadBox; rfl
@[go_sem] theorem XImage.tk_Parts (x : XImage) : takeD false 1 (x.enc.cells.drop 3) = .d (encL XPart.enc x.parts) := by unfold XImage.enc takeD D.cells; rfl
@[go_sem] theorem XImage.st_Parts (x : XImage) (v : List XPart) : storeBox 3 (.d (encL XPart.enc v)) (.d x.enc) = .d ({ x with parts := v } : XImage).enc := by unfold storeBox; rfl
structure XInput where
  dev : Int
  words : List Int
def XInput.zero : XInput := ⟨0, []⟩
def XInput.enc (x : XInput) : D := .agg [D.u x.dev, encL D.u x.words]
@[go_sem] theorem XInput.len (x : XInput) : x.enc.cells.length = 2 := rfl
@[go_sem] theorem XInput.vlen (x : XInput) : (V.d x.enc).cells.length = 2 := rfl
@[go_sem] theorem XInput.zcells : (V.d XInput.zero.enc).cells = [.d (D.u XInput.zero.dev), .d (encL D.u XInput.zero.words)] := rfl
@[go_sem] theorem XInput.z_dev : XInput.zero.dev = 0 := rfl
@[go_sem] theorem XInput.z_words : XInput.zero.words = [] := rfl
@[go_sem] theorem XInput.isStr (x : XInput) : (V.d x.enc).isStr = true := rfl
theorem XInput.agg (x : XInput) : x.enc = .agg [D.u x.dev, encL D.u x.words] := rfl
@[go_sem] theorem XInput.toD (x : XInput) : V.toD (V.d x.enc) = some x.enc := rfl
@[go_sem] theorem XInput.ld (x : XInput) : loadBox true 0 2 (.d x.enc) = .d x.enc := by unfold XInput.enc loadBox; rfl
@[go_sem] theorem XInput.tk (x : XInput) : takeD true 2 x.enc.cells = .d x.enc := by unfold XInput.enc takeD D.cells; rfl
@[go_sem] theorem XInput.st (x : XInput) (c : V) (h : c.cells.length = 2) : storeBox 0 (.d x.enc) c = .d x.enc := by unfold storeBox; rw [if_pos ⟨rfl, by rw [h]; rfl⟩]
@[go_sem] theorem XInput.ld_Dev (x : XInput) : loadBox false 0 1 (.d x.enc) = .d (D.u x.dev) := by unfold XInput.enc loadBox; rfl
@[go_sem] theorem XInput.tk_Dev (x : XInput) : takeD false 1 (x.enc.cells) = .d (D.u x.dev) := by unfold XInput.enc takeD D.cells; rfl
@[go_sem] theorem XInput.st_Dev (x : XInput) (v : Int) : storeBox 0 (.d (D.u v)) (.d x.enc) = .d ({ x with dev := v } : XInput).enc := by unfold storeBox; rfl
@[go_sem] theorem XInput.ld_Words (x : XInput) : loadBox false 1 1 (.d x.enc) = .d (encL D.u x.words) := by unfold XInput.enc loadBox; rfl
@[go_sem] theorem XInput.tk_Words (x : XInput) : takeD false 1 (x.enc.cells.drop 1) = .d (encL D.u x.words) := by unfold XInput.enc takeD D.cells; rfl
@[go_sem] theorem XInput.st_Words (x : XInput) (v : List Int) : storeBox 1 (.d (encL D.u v)) (.d x.enc) = .d ({ x with words := v } : XInput).enc := by unfold storeBox; rfl
structure XTick where
  slot : Int
  inputs : List XInput
def XTick.zero : XTick := ⟨0, []⟩
def XTick.enc (x : XTick) : D := .agg [D.u x.slot, encL XInput.enc x.inputs]
@[go_sem] theorem XTick.len (x : XTick) : x.enc.cells.length = 2 := rfl
@[go_sem] theorem XTick.vlen (x : XTick) : (V.d x.enc).cells.length = 2 := rfl
@[go_sem] theorem XTick.zcells : (V.d XTick.zero.enc).cells = [.d (D.u XTick.zero.slot), .d (encL XInput.enc XTick.zero.inputs)] := rfl
@[go_sem] theorem XTick.z_slot : XTick.zero.slot = 0 := rfl
@[go_sem] theorem XTick.z_inputs : XTick.zero.inputs = [] := rfl
@[go_sem] theorem XTick.isStr (x : XTick) : (V.d x.enc).isStr = true := rfl
theorem XTick.agg (x : XTick) : x.enc = .agg [D.u x.slot, encL XInput.enc x.inputs] := rfl
@[go_sem] theorem XTick.toD (x : XTick) : V.toD (V.d x.enc) = some x.enc := rfl
@[go_sem] theorem XTick.ld (x : XTick) : loadBox true 0 2 (.d x.enc) = .d x.enc := by unfold XTick.enc loadBox; rfl
@[go_sem] theorem XTick.tk (x : XTick) : takeD true 2 x.enc.cells = .d x.enc := by unfold XTick.enc takeD D.cells; rfl
@[go_sem] theorem XTick.st (x : XTick) (c : V) (h : c.cells.length = 2) : storeBox 0 (.d x.enc) c = .d x.enc := by unfold storeBox; rw [if_pos ⟨rfl, by rw [h]; rfl⟩]
@[go_sem] theorem XTick.ld_Slot (x : XTick) : loadBox false 0 1 (.d x.enc) = .d (D.u x.slot) := by unfold XTick.enc loadBox; rfl
@[go_sem] theorem XTick.tk_Slot (x : XTick) : takeD false 1 (x.enc.cells) = .d (D.u x.slot) := by unfold XTick.enc takeD D.cells; rfl
@[go_sem] theorem XTick.st_Slot (x : XTick) (v : Int) : storeBox 0 (.d (D.u v)) (.d x.enc) = .d ({ x with slot := v } : XTick).enc := by unfold storeBox; rfl
@[go_sem] theorem XTick.ld_Inputs (x : XTick) : loadBox false 1 1 (.d x.enc) = .d (encL XInput.enc x.inputs) := by unfold XTick.enc loadBox; rfl
@[go_sem] theorem XTick.tk_Inputs (x : XTick) : takeD false 1 (x.enc.cells.drop 1) = .d (encL XInput.enc x.inputs) := by unfold XTick.enc takeD D.cells; rfl
@[go_sem] theorem XTick.st_Inputs (x : XTick) (v : List XInput) : storeBox 1 (.d (encL XInput.enc v)) (.d x.enc) = .d ({ x with inputs := v } : XTick).enc := by unfold storeBox; rfl
structure XFinding where
  id : Int
  what : Int
def XFinding.zero : XFinding := ⟨0, 0⟩
def XFinding.enc (x : XFinding) : D := .agg [D.u x.id, D.i x.what]
@[go_sem] theorem XFinding.len (x : XFinding) : x.enc.cells.length = 2 := rfl
@[go_sem] theorem XFinding.vlen (x : XFinding) : (V.d x.enc).cells.length = 2 := rfl
@[go_sem] theorem XFinding.zcells : (V.d XFinding.zero.enc).cells = [.d (D.u XFinding.zero.id), .d (D.i XFinding.zero.what)] := rfl
@[go_sem] theorem XFinding.z_id : XFinding.zero.id = 0 := rfl
@[go_sem] theorem XFinding.z_what : XFinding.zero.what = 0 := rfl
@[go_sem] theorem XFinding.isStr (x : XFinding) : (V.d x.enc).isStr = true := rfl
theorem XFinding.agg (x : XFinding) : x.enc = .agg [D.u x.id, D.i x.what] := rfl
@[go_sem] theorem XFinding.toD (x : XFinding) : V.toD (V.d x.enc) = some x.enc := rfl
@[go_sem] theorem XFinding.ld (x : XFinding) : loadBox true 0 2 (.d x.enc) = .d x.enc := by unfold XFinding.enc loadBox; rfl
@[go_sem] theorem XFinding.tk (x : XFinding) : takeD true 2 x.enc.cells = .d x.enc := by unfold XFinding.enc takeD D.cells; rfl
@[go_sem] theorem XFinding.st (x : XFinding) (c : V) (h : c.cells.length = 2) : storeBox 0 (.d x.enc) c = .d x.enc := by unfold storeBox; rw [if_pos ⟨rfl, by rw [h]; rfl⟩]
@[go_sem] theorem XFinding.ld_Id (x : XFinding) : loadBox false 0 1 (.d x.enc) = .d (D.u x.id) := by unfold XFinding.enc loadBox; rfl
@[go_sem] theorem XFinding.tk_Id (x : XFinding) : takeD false 1 (x.enc.cells) = .d (D.u x.id) := by unfold XFinding.enc takeD D.cells; rfl
@[go_sem] theorem XFinding.st_Id (x : XFinding) (v : Int) : storeBox 0 (.d (D.u v)) (.d x.enc) = .d ({ x with id := v } : XFinding).enc := by unfold storeBox; rfl
@[go_sem] theorem XFinding.ld_What (x : XFinding) : loadBox false 1 1 (.d x.enc) = .d (D.i x.what) := by unfold XFinding.enc loadBox; rfl
@[go_sem] theorem XFinding.tk_What (x : XFinding) : takeD false 1 (x.enc.cells.drop 1) = .d (D.i x.what) := by unfold XFinding.enc takeD D.cells; rfl
@[go_sem] theorem XFinding.st_What (x : XFinding) (v : Int) : storeBox 1 (.d (D.i v)) (.d x.enc) = .d ({ x with what := v } : XFinding).enc := by unfold storeBox; rfl
structure XAuditInspector where
  world : XWorld
def XAuditInspector.zero : XAuditInspector := ⟨XWorld.zero⟩
def XAuditInspector.enc (x : XAuditInspector) : D := .agg [D.i x.world.time, D.u x.world.key, D.u x.world.root, encL XObject.enc x.world.objects]
@[go_sem] theorem XAuditInspector.len (x : XAuditInspector) : x.enc.cells.length = 4 := rfl
@[go_sem] theorem XAuditInspector.vlen (x : XAuditInspector) : (V.d x.enc).cells.length = 4 := rfl
@[go_sem] theorem XAuditInspector.zcells : (V.d XAuditInspector.zero.enc).cells = [.d (D.i XAuditInspector.zero.world.time), .d (D.u XAuditInspector.zero.world.key), .d (D.u XAuditInspector.zero.world.root), .d (encL XObject.enc XAuditInspector.zero.world.objects)] := rfl
@[go_sem] theorem XAuditInspector.z_world : XAuditInspector.zero.world = XWorld.zero := rfl
@[go_sem] theorem XAuditInspector.isStr (x : XAuditInspector) : (V.d x.enc).isStr = true := rfl
theorem XAuditInspector.agg (x : XAuditInspector) : x.enc = .agg [D.i x.world.time, D.u x.world.key, D.u x.world.root, encL XObject.enc x.world.objects] := rfl
@[go_sem] theorem XAuditInspector.toD (x : XAuditInspector) : V.toD (V.d x.enc) = some x.enc := rfl
@[go_sem] theorem XAuditInspector.ld (x : XAuditInspector) : loadBox true 0 4 (.d x.enc) = .d x.enc := by unfold XAuditInspector.enc loadBox; rfl
@[go_sem] theorem XAuditInspector.tk (x : XAuditInspector) : takeD true 4 x.enc.cells = .d x.enc := by unfold XAuditInspector.enc takeD D.cells; rfl
@[go_sem] theorem XAuditInspector.st (x : XAuditInspector) (c : V) (h : c.cells.length = 4) : storeBox 0 (.d x.enc) c = .d x.enc := by unfold storeBox; rw [if_pos ⟨rfl, by rw [h]; rfl⟩]
@[go_sem] theorem XAuditInspector.ld_World_Time (x : XAuditInspector) : loadBox false 0 1 (.d x.enc) = .d (D.i x.world.time) := by unfold XAuditInspector.enc loadBox; rfl
@[go_sem] theorem XAuditInspector.tk_World_Time (x : XAuditInspector) : takeD false 1 (x.enc.cells) = .d (D.i x.world.time) := by unfold XAuditInspector.enc takeD D.cells; rfl
@[go_sem] theorem XAuditInspector.st_World_Time (x : XAuditInspector) (v : Int) : storeBox 0 (.d (D.i v)) (.d x.enc) = .d ({ x with world := { x.world with time := v } } : XAuditInspector).enc := by unfold storeBox; rfl
@[go_sem] theorem XAuditInspector.ld_World_Key (x : XAuditInspector) : loadBox false 1 1 (.d x.enc) = .d (D.u x.world.key) := by unfold XAuditInspector.enc loadBox; rfl
@[go_sem] theorem XAuditInspector.tk_World_Key (x : XAuditInspector) : takeD false 1 (x.enc.cells.drop 1) = .d (D.u x.world.key) := by unfold XAuditInspector.enc takeD D.cells; rfl
@[go_sem] theorem XAuditInspector.st_World_Key (x : XAuditInspector) (v : Int) : storeBox 1 (.d (D.u v)) (.d x.enc) = .d ({ x with world := { x.world with key := v } } : XAuditInspector).enc := by unfold storeBox; rfl
@[go_sem] theorem XAuditInspector.ld_World_Root (x : XAuditInspector) : loadBox false 2 1 (.d x.enc) = .d (D.u x.world.root) := by unfold XAuditInspector.enc loadBox; rfl
@[go_sem] theorem XAuditInspector.tk_World_Root (x : XAuditInspector) : takeD false 1 (x.enc.cells.drop 2) = .d (D.u x.world.root) := by unfold XAuditInspector.enc takeD D.cells; rfl
@[go_sem] theorem XAuditInspector.st_World_Root (x : XAuditInspector) (v : Int) : storeBox 2 (.d (D.u v)) (.d x.enc) = .d ({ x with world := { x.world with root := v } } : XAuditInspector).enc := by unfold storeBox; rfl
@[go_sem] theorem XAuditInspector.ld_World_Objects (x : XAuditInspector) : loadBox false 3 1 (.d x.enc) = .d (encL XObject.enc x.world.objects) := by unfold XAuditInspector.enc loadBox; rfl
@[go_sem] theorem XAuditInspector.tk_World_Objects (x : XAuditInspector) : takeD false 1 (x.enc.cells.drop 3) = .d (encL XObject.enc x.world.objects) := by unfold XAuditInspector.enc takeD D.cells; rfl
@[go_sem] theorem XAuditInspector.st_World_Objects (x : XAuditInspector) (v : List XObject) : storeBox 3 (.d (encL XObject.enc v)) (.d x.enc) = .d ({ x with world := { x.world with objects := v } } : XAuditInspector).enc := by unfold storeBox; rfl
structure XBootBuilder where
  x : XImage
  w : XWorld
  ids : List Int
def XBootBuilder.zero : XBootBuilder := ⟨XImage.zero, XWorld.zero, []⟩
def XBootBuilder.enc (x : XBootBuilder) : D := .agg [D.u x.x.key, encL XPair.enc x.x.label, D.i x.x.quota, encL XPart.enc x.x.parts, D.i x.w.time, D.u x.w.key, D.u x.w.root, encL XObject.enc x.w.objects, encL D.u x.ids]
@[go_sem] theorem XBootBuilder.len (x : XBootBuilder) : x.enc.cells.length = 9 := rfl
@[go_sem] theorem XBootBuilder.vlen (x : XBootBuilder) : (V.d x.enc).cells.length = 9 := rfl
@[go_sem] theorem XBootBuilder.zcells : (V.d XBootBuilder.zero.enc).cells = [.d (D.u XBootBuilder.zero.x.key), .d (encL XPair.enc XBootBuilder.zero.x.label), .d (D.i XBootBuilder.zero.x.quota), .d (encL XPart.enc XBootBuilder.zero.x.parts), .d (D.i XBootBuilder.zero.w.time), .d (D.u XBootBuilder.zero.w.key), .d (D.u XBootBuilder.zero.w.root), .d (encL XObject.enc XBootBuilder.zero.w.objects), .d (encL D.u XBootBuilder.zero.ids)] := rfl
@[go_sem] theorem XBootBuilder.z_x : XBootBuilder.zero.x = XImage.zero := rfl
@[go_sem] theorem XBootBuilder.z_w : XBootBuilder.zero.w = XWorld.zero := rfl
@[go_sem] theorem XBootBuilder.z_ids : XBootBuilder.zero.ids = [] := rfl
@[go_sem] theorem XBootBuilder.isStr (x : XBootBuilder) : (V.d x.enc).isStr = true := rfl
theorem XBootBuilder.agg (x : XBootBuilder) : x.enc = .agg [D.u x.x.key, encL XPair.enc x.x.label, D.i x.x.quota, encL XPart.enc x.x.parts, D.i x.w.time, D.u x.w.key, D.u x.w.root, encL XObject.enc x.w.objects, encL D.u x.ids] := rfl
@[go_sem] theorem XBootBuilder.toD (x : XBootBuilder) : V.toD (V.d x.enc) = some x.enc := rfl
@[go_sem] theorem XBootBuilder.ld (x : XBootBuilder) : loadBox true 0 9 (.d x.enc) = .d x.enc := by unfold XBootBuilder.enc loadBox; rfl
@[go_sem] theorem XBootBuilder.tk (x : XBootBuilder) : takeD true 9 x.enc.cells = .d x.enc := by unfold XBootBuilder.enc takeD D.cells; rfl
@[go_sem] theorem XBootBuilder.st (x : XBootBuilder) (c : V) (h : c.cells.length = 9) : storeBox 0 (.d x.enc) c = .d x.enc := by unfold storeBox; rw [if_pos ⟨rfl, by rw [h]; rfl⟩]
@[go_sem] theorem XBootBuilder.ld_x (x : XBootBuilder) : loadBox true 0 4 (.d x.enc) = .d (XImage.enc x.x) := by unfold XBootBuilder.enc loadBox; rfl
@[go_sem] theorem XBootBuilder.tk_x (x : XBootBuilder) : takeD true 4 (x.enc.cells) = .d (XImage.enc x.x) := by unfold XBootBuilder.enc takeD D.cells; rfl
@[go_sem] theorem XBootBuilder.st_x (x : XBootBuilder) (v : XImage) : storeBox 0 (.d (XImage.enc v)) (.d x.enc) = .d ({ x with x := v }).enc := by unfold storeBox; rfl
@[go_sem] theorem XBootBuilder.ld_x_Key (x : XBootBuilder) : loadBox false 0 1 (.d x.enc) = .d (D.u x.x.key) := by unfold XBootBuilder.enc loadBox; rfl
@[go_sem] theorem XBootBuilder.tk_x_Key (x : XBootBuilder) : takeD false 1 (x.enc.cells) = .d (D.u x.x.key) := by unfold XBootBuilder.enc takeD D.cells; rfl
@[go_sem] theorem XBootBuilder.st_x_Key (x : XBootBuilder) (v : Int) : storeBox 0 (.d (D.u v)) (.d x.enc) = .d ({ x with x := { x.x with key := v } } : XBootBuilder).enc := by unfold storeBox; rfl
@[go_sem] theorem XBootBuilder.ld_x_Label (x : XBootBuilder) : loadBox false 1 1 (.d x.enc) = .d (encL XPair.enc x.x.label) := by unfold XBootBuilder.enc loadBox; rfl
@[go_sem] theorem XBootBuilder.tk_x_Label (x : XBootBuilder) : takeD false 1 (x.enc.cells.drop 1) = .d (encL XPair.enc x.x.label) := by unfold XBootBuilder.enc takeD D.cells; rfl
@[go_sem] theorem XBootBuilder.st_x_Label (x : XBootBuilder) (v : List XPair) : storeBox 1 (.d (encL XPair.enc v)) (.d x.enc) = .d ({ x with x := { x.x with label := v } } : XBootBuilder).enc := by unfold storeBox; rfl
@[go_sem] theorem XBootBuilder.ld_x_Quota (x : XBootBuilder) : loadBox false 2 1 (.d x.enc) = .d (D.i x.x.quota) := by unfold XBootBuilder.enc loadBox; rfl
@[go_sem] theorem XBootBuilder.tk_x_Quota (x : XBootBuilder) : takeD false 1 (x.enc.cells.drop 2) = .d (D.i x.x.quota) := by unfold XBootBuilder.enc takeD D.cells; rfl
@[go_sem] theorem XBootBuilder.st_x_Quota (x : XBootBuilder) (v : Int) : storeBox 2 (.d (D.i v)) (.d x.enc) = .d ({ x with x := { x.x with quota := v } } : XBootBuilder).enc := by unfold storeBox; rfl
@[go_sem] theorem XBootBuilder.ld_x_Parts (x : XBootBuilder) : loadBox false 3 1 (.d x.enc) = .d (encL XPart.enc x.x.parts) := by unfold XBootBuilder.enc loadBox; rfl
@[go_sem] theorem XBootBuilder.tk_x_Parts (x : XBootBuilder) : takeD false 1 (x.enc.cells.drop 3) = .d (encL XPart.enc x.x.parts) := by unfold XBootBuilder.enc takeD D.cells; rfl
@[go_sem] theorem XBootBuilder.st_x_Parts (x : XBootBuilder) (v : List XPart) : storeBox 3 (.d (encL XPart.enc v)) (.d x.enc) = .d ({ x with x := { x.x with parts := v } } : XBootBuilder).enc := by unfold storeBox; rfl
@[go_sem] theorem XBootBuilder.ld_w (x : XBootBuilder) : loadBox true 4 4 (.d x.enc) = .d (XWorld.enc x.w) := by unfold XBootBuilder.enc loadBox; rfl
@[go_sem] theorem XBootBuilder.tk_w (x : XBootBuilder) : takeD true 4 (x.enc.cells.drop 4) = .d (XWorld.enc x.w) := by unfold XBootBuilder.enc takeD D.cells; rfl
@[go_sem] theorem XBootBuilder.st_w (x : XBootBuilder) (v : XWorld) : storeBox 4 (.d (XWorld.enc v)) (.d x.enc) = .d ({ x with w := v }).enc := by unfold storeBox; rfl
@[go_sem] theorem XBootBuilder.ld_w_Time (x : XBootBuilder) : loadBox false 4 1 (.d x.enc) = .d (D.i x.w.time) := by unfold XBootBuilder.enc loadBox; rfl
@[go_sem] theorem XBootBuilder.tk_w_Time (x : XBootBuilder) : takeD false 1 (x.enc.cells.drop 4) = .d (D.i x.w.time) := by unfold XBootBuilder.enc takeD D.cells; rfl
@[go_sem] theorem XBootBuilder.st_w_Time (x : XBootBuilder) (v : Int) : storeBox 4 (.d (D.i v)) (.d x.enc) = .d ({ x with w := { x.w with time := v } } : XBootBuilder).enc := by unfold storeBox; rfl
@[go_sem] theorem XBootBuilder.ld_w_Key (x : XBootBuilder) : loadBox false 5 1 (.d x.enc) = .d (D.u x.w.key) := by unfold XBootBuilder.enc loadBox; rfl
@[go_sem] theorem XBootBuilder.tk_w_Key (x : XBootBuilder) : takeD false 1 (x.enc.cells.drop 5) = .d (D.u x.w.key) := by unfold XBootBuilder.enc takeD D.cells; rfl
@[go_sem] theorem XBootBuilder.st_w_Key (x : XBootBuilder) (v : Int) : storeBox 5 (.d (D.u v)) (.d x.enc) = .d ({ x with w := { x.w with key := v } } : XBootBuilder).enc := by unfold storeBox; rfl
@[go_sem] theorem XBootBuilder.ld_w_Root (x : XBootBuilder) : loadBox false 6 1 (.d x.enc) = .d (D.u x.w.root) := by unfold XBootBuilder.enc loadBox; rfl
@[go_sem] theorem XBootBuilder.tk_w_Root (x : XBootBuilder) : takeD false 1 (x.enc.cells.drop 6) = .d (D.u x.w.root) := by unfold XBootBuilder.enc takeD D.cells; rfl
@[go_sem] theorem XBootBuilder.st_w_Root (x : XBootBuilder) (v : Int) : storeBox 6 (.d (D.u v)) (.d x.enc) = .d ({ x with w := { x.w with root := v } } : XBootBuilder).enc := by unfold storeBox; rfl
@[go_sem] theorem XBootBuilder.ld_w_Objects (x : XBootBuilder) : loadBox false 7 1 (.d x.enc) = .d (encL XObject.enc x.w.objects) := by unfold XBootBuilder.enc loadBox; rfl
@[go_sem] theorem XBootBuilder.tk_w_Objects (x : XBootBuilder) : takeD false 1 (x.enc.cells.drop 7) = .d (encL XObject.enc x.w.objects) := by unfold XBootBuilder.enc takeD D.cells; rfl
@[go_sem] theorem XBootBuilder.st_w_Objects (x : XBootBuilder) (v : List XObject) : storeBox 7 (.d (encL XObject.enc v)) (.d x.enc) = .d ({ x with w := { x.w with objects := v } } : XBootBuilder).enc := by unfold storeBox; rfl
@[go_sem] theorem XBootBuilder.ld_ids (x : XBootBuilder) : loadBox false 8 1 (.d x.enc) = .d (encL D.u x.ids) := by unfold XBootBuilder.enc loadBox; rfl
@[go_sem] theorem XBootBuilder.tk_ids (x : XBootBuilder) : takeD false 1 (x.enc.cells.drop 8) = .d (encL D.u x.ids) := by unfold XBootBuilder.enc takeD D.cells; rfl
@[go_sem] theorem XBootBuilder.st_ids (x : XBootBuilder) (v : List Int) : storeBox 8 (.d (encL D.u v)) (.d x.enc) = .d ({ x with ids := v } : XBootBuilder).enc := by unfold storeBox; rfl
structure XKsegCaller where
  object : XObject
  w : XWorld
  a : Fin 7 → Int
def XKsegCaller.zero : XKsegCaller := ⟨XObject.zero, XWorld.zero, (fun _ => 0)⟩
def XKsegCaller.enc (x : XKsegCaller) : D := .agg [D.u x.object.id, D.i x.object.kind, encL XPair.enc x.object.label, D.i x.object.quota, D.b x.object.fixed, encL D.u x.object.links, encL D.u x.object.data, encL XPagesReach.enc x.object.maps, D.u (x.object.thread.regs 0), D.u (x.object.thread.regs 1), D.u (x.object.thread.regs 2), D.u (x.object.thread.regs 3), D.u (x.object.thread.regs 4), D.u (x.object.thread.regs 5), D.u (x.object.thread.regs 6), D.u (x.object.thread.regs 7), D.u (x.object.thread.regs 8), D.u (x.object.thread.regs 9), D.u (x.object.thread.regs 10), D.u (x.object.thread.regs 11), D.u (x.object.thread.regs 12), D.u (x.object.thread.regs 13), D.u (x.object.thread.regs 14), D.u (x.object.thread.regs 15), D.u x.object.thread.pc, encL XPair.enc x.object.thread.clear, D.u x.object.thread.space.cont, D.u x.object.thread.space.id, D.u x.object.thread.handler, D.u x.object.thread.vector, D.i x.object.thread.state, D.u x.object.thread.wait.ref.cont, D.u x.object.thread.wait.ref.id, D.u x.object.thread.wait.index, D.u x.object.thread.wait.val, D.b x.object.thread.wait.dev, encL D.u x.object.thread.alerts, D.u x.object.thread.span.lo, D.u x.object.thread.span.hi, encL XPair.enc (x.object.thread.labs 0), encL XPair.enc (x.object.thread.labs 1), encL XPair.enc (x.object.thread.labs 2), encL XPair.enc (x.object.thread.labs 3), encL XPair.enc x.object.gate.grant, encL XPair.enc x.object.gate.clear, D.u x.object.gate.space.cont, D.u x.object.gate.space.id, D.u x.object.gate.pc, D.u x.object.gate.arg, encL D.u x.object.in', encL D.u x.object.out, D.i x.w.time, D.u x.w.key, D.u x.w.root, encL XObject.enc x.w.objects, D.u (x.a 0), D.u (x.a 1), D.u (x.a 2), D.u (x.a 3), D.u (x.a 4), D.u (x.a 5), D.u (x.a 6)]
@[go_sem] theorem XKsegCaller.len (x : XKsegCaller) : x.enc.cells.length = 62 := rfl
@[go_sem] theorem XKsegCaller.vlen (x : XKsegCaller) : (V.d x.enc).cells.length = 62 := rfl
@[go_sem] theorem XKsegCaller.zcells : (V.d XKsegCaller.zero.enc).cells = [.d (D.u XKsegCaller.zero.object.id), .d (D.i XKsegCaller.zero.object.kind), .d (encL XPair.enc XKsegCaller.zero.object.label), .d (D.i XKsegCaller.zero.object.quota), .d (D.b XKsegCaller.zero.object.fixed), .d (encL D.u XKsegCaller.zero.object.links), .d (encL D.u XKsegCaller.zero.object.data), .d (encL XPagesReach.enc XKsegCaller.zero.object.maps), .d (D.u (XKsegCaller.zero.object.thread.regs 0)), .d (D.u (XKsegCaller.zero.object.thread.regs 1)), .d (D.u (XKsegCaller.zero.object.thread.regs 2)), .d (D.u (XKsegCaller.zero.object.thread.regs 3)), .d (D.u (XKsegCaller.zero.object.thread.regs 4)), .d (D.u (XKsegCaller.zero.object.thread.regs 5)), .d (D.u (XKsegCaller.zero.object.thread.regs 6)), .d (D.u (XKsegCaller.zero.object.thread.regs 7)), .d (D.u (XKsegCaller.zero.object.thread.regs 8)), .d (D.u (XKsegCaller.zero.object.thread.regs 9)), .d (D.u (XKsegCaller.zero.object.thread.regs 10)), .d (D.u (XKsegCaller.zero.object.thread.regs 11)), .d (D.u (XKsegCaller.zero.object.thread.regs 12)), .d (D.u (XKsegCaller.zero.object.thread.regs 13)), .d (D.u (XKsegCaller.zero.object.thread.regs 14)), .d (D.u (XKsegCaller.zero.object.thread.regs 15)), .d (D.u XKsegCaller.zero.object.thread.pc), .d (encL XPair.enc XKsegCaller.zero.object.thread.clear), .d (D.u XKsegCaller.zero.object.thread.space.cont), .d (D.u XKsegCaller.zero.object.thread.space.id), .d (D.u XKsegCaller.zero.object.thread.handler), .d (D.u XKsegCaller.zero.object.thread.vector), .d (D.i XKsegCaller.zero.object.thread.state), .d (D.u XKsegCaller.zero.object.thread.wait.ref.cont), .d (D.u XKsegCaller.zero.object.thread.wait.ref.id), .d (D.u XKsegCaller.zero.object.thread.wait.index), .d (D.u XKsegCaller.zero.object.thread.wait.val), .d (D.b XKsegCaller.zero.object.thread.wait.dev), .d (encL D.u XKsegCaller.zero.object.thread.alerts), .d (D.u XKsegCaller.zero.object.thread.span.lo), .d (D.u XKsegCaller.zero.object.thread.span.hi), .d (encL XPair.enc (XKsegCaller.zero.object.thread.labs 0)), .d (encL XPair.enc (XKsegCaller.zero.object.thread.labs 1)), .d (encL XPair.enc (XKsegCaller.zero.object.thread.labs 2)), .d (encL XPair.enc (XKsegCaller.zero.object.thread.labs 3)), .d (encL XPair.enc XKsegCaller.zero.object.gate.grant), .d (encL XPair.enc XKsegCaller.zero.object.gate.clear), .d (D.u XKsegCaller.zero.object.gate.space.cont), .d (D.u XKsegCaller.zero.object.gate.space.id), .d (D.u XKsegCaller.zero.object.gate.pc), .d (D.u XKsegCaller.zero.object.gate.arg), .d (encL D.u XKsegCaller.zero.object.in'), .d (encL D.u XKsegCaller.zero.object.out), .d (D.i XKsegCaller.zero.w.time), .d (D.u XKsegCaller.zero.w.key), .d (D.u XKsegCaller.zero.w.root), .d (encL XObject.enc XKsegCaller.zero.w.objects), .d (D.u (XKsegCaller.zero.a 0)), .d (D.u (XKsegCaller.zero.a 1)), .d (D.u (XKsegCaller.zero.a 2)), .d (D.u (XKsegCaller.zero.a 3)), .d (D.u (XKsegCaller.zero.a 4)), .d (D.u (XKsegCaller.zero.a 5)), .d (D.u (XKsegCaller.zero.a 6))] := rfl
@[go_sem] theorem XKsegCaller.z_object : XKsegCaller.zero.object = XObject.zero := rfl
@[go_sem] theorem XKsegCaller.z_w : XKsegCaller.zero.w = XWorld.zero := rfl
@[go_sem] theorem XKsegCaller.z_a : XKsegCaller.zero.a = (fun _ => 0) := rfl
@[go_sem] theorem XKsegCaller.isStr (x : XKsegCaller) : (V.d x.enc).isStr = true := rfl
theorem XKsegCaller.agg (x : XKsegCaller) : x.enc = .agg [D.u x.object.id, D.i x.object.kind, encL XPair.enc x.object.label, D.i x.object.quota, D.b x.object.fixed, encL D.u x.object.links, encL D.u x.object.data, encL XPagesReach.enc x.object.maps, D.u (x.object.thread.regs 0), D.u (x.object.thread.regs 1), D.u (x.object.thread.regs 2), D.u (x.object.thread.regs 3), D.u (x.object.thread.regs 4), D.u (x.object.thread.regs 5), D.u (x.object.thread.regs 6), D.u (x.object.thread.regs 7), D.u (x.object.thread.regs 8), D.u (x.object.thread.regs 9), D.u (x.object.thread.regs 10), D.u (x.object.thread.regs 11), D.u (x.object.thread.regs 12), D.u (x.object.thread.regs 13), D.u (x.object.thread.regs 14), D.u (x.object.thread.regs 15), D.u x.object.thread.pc, encL XPair.enc x.object.thread.clear, D.u x.object.thread.space.cont, D.u x.object.thread.space.id, D.u x.object.thread.handler, D.u x.object.thread.vector, D.i x.object.thread.state, D.u x.object.thread.wait.ref.cont, D.u x.object.thread.wait.ref.id, D.u x.object.thread.wait.index, D.u x.object.thread.wait.val, D.b x.object.thread.wait.dev, encL D.u x.object.thread.alerts, D.u x.object.thread.span.lo, D.u x.object.thread.span.hi, encL XPair.enc (x.object.thread.labs 0), encL XPair.enc (x.object.thread.labs 1), encL XPair.enc (x.object.thread.labs 2), encL XPair.enc (x.object.thread.labs 3), encL XPair.enc x.object.gate.grant, encL XPair.enc x.object.gate.clear, D.u x.object.gate.space.cont, D.u x.object.gate.space.id, D.u x.object.gate.pc, D.u x.object.gate.arg, encL D.u x.object.in', encL D.u x.object.out, D.i x.w.time, D.u x.w.key, D.u x.w.root, encL XObject.enc x.w.objects, D.u (x.a 0), D.u (x.a 1), D.u (x.a 2), D.u (x.a 3), D.u (x.a 4), D.u (x.a 5), D.u (x.a 6)] := rfl
@[go_sem] theorem XKsegCaller.toD (x : XKsegCaller) : V.toD (V.d x.enc) = some x.enc := rfl
@[go_sem] theorem XKsegCaller.ld (x : XKsegCaller) : loadBox true 0 62 (.d x.enc) = .d x.enc := by unfold XKsegCaller.enc loadBox; rfl
@[go_sem] theorem XKsegCaller.tk (x : XKsegCaller) : takeD true 62 x.enc.cells = .d x.enc := by unfold XKsegCaller.enc takeD D.cells; rfl
@[go_sem] theorem XKsegCaller.st (x : XKsegCaller) (c : V) (h : c.cells.length = 62) : storeBox 0 (.d x.enc) c = .d x.enc := by unfold storeBox; rw [if_pos ⟨rfl, by rw [h]; rfl⟩]
@[go_sem] theorem XKsegCaller.ld_Object (x : XKsegCaller) : loadBox true 0 51 (.d x.enc) = .d (XObject.enc x.object) := by unfold XKsegCaller.enc loadBox; rfl
@[go_sem] theorem XKsegCaller.tk_Object (x : XKsegCaller) : takeD true 51 (x.enc.cells) = .d (XObject.enc x.object) := by unfold XKsegCaller.enc takeD D.cells; rfl
@[go_sem] theorem XKsegCaller.st_Object (x : XKsegCaller) (v : XObject) : storeBox 0 (.d (XObject.enc v)) (.d x.enc) = .d ({ x with object := v }).enc := by unfold storeBox; rfl
@[go_sem] theorem XKsegCaller.ld_Object_Id (x : XKsegCaller) : loadBox false 0 1 (.d x.enc) = .d (D.u x.object.id) := by unfold XKsegCaller.enc loadBox; rfl
@[go_sem] theorem XKsegCaller.tk_Object_Id (x : XKsegCaller) : takeD false 1 (x.enc.cells) = .d (D.u x.object.id) := by unfold XKsegCaller.enc takeD D.cells; rfl
@[go_sem] theorem XKsegCaller.st_Object_Id (x : XKsegCaller) (v : Int) : storeBox 0 (.d (D.u v)) (.d x.enc) = .d ({ x with object := { x.object with id := v } } : XKsegCaller).enc := by unfold storeBox; rfl
@[go_sem] theorem XKsegCaller.ld_Object_Kind (x : XKsegCaller) : loadBox false 1 1 (.d x.enc) = .d (D.i x.object.kind) := by unfold XKsegCaller.enc loadBox; rfl
@[go_sem] theorem XKsegCaller.tk_Object_Kind (x : XKsegCaller) : takeD false 1 (x.enc.cells.drop 1) = .d (D.i x.object.kind) := by unfold XKsegCaller.enc takeD D.cells; rfl
@[go_sem] theorem XKsegCaller.st_Object_Kind (x : XKsegCaller) (v : Int) : storeBox 1 (.d (D.i v)) (.d x.enc) = .d ({ x with object := { x.object with kind := v } } : XKsegCaller).enc := by unfold storeBox; rfl
@[go_sem] theorem XKsegCaller.ld_Object_Label (x : XKsegCaller) : loadBox false 2 1 (.d x.enc) = .d (encL XPair.enc x.object.label) := by unfold XKsegCaller.enc loadBox; rfl
@[go_sem] theorem XKsegCaller.tk_Object_Label (x : XKsegCaller) : takeD false 1 (x.enc.cells.drop 2) = .d (encL XPair.enc x.object.label) := by unfold XKsegCaller.enc takeD D.cells; rfl
@[go_sem] theorem XKsegCaller.st_Object_Label (x : XKsegCaller) (v : List XPair) : storeBox 2 (.d (encL XPair.enc v)) (.d x.enc) = .d ({ x with object := { x.object with label := v } } : XKsegCaller).enc := by unfold storeBox; rfl
@[go_sem] theorem XKsegCaller.ld_Object_Quota (x : XKsegCaller) : loadBox false 3 1 (.d x.enc) = .d (D.i x.object.quota) := by unfold XKsegCaller.enc loadBox; rfl
@[go_sem] theorem XKsegCaller.tk_Object_Quota (x : XKsegCaller) : takeD false 1 (x.enc.cells.drop 3) = .d (D.i x.object.quota) := by unfold XKsegCaller.enc takeD D.cells; rfl
@[go_sem] theorem XKsegCaller.st_Object_Quota (x : XKsegCaller) (v : Int) : storeBox 3 (.d (D.i v)) (.d x.enc) = .d ({ x with object := { x.object with quota := v } } : XKsegCaller).enc := by unfold storeBox; rfl
@[go_sem] theorem XKsegCaller.ld_Object_Fixed (x : XKsegCaller) : loadBox false 4 1 (.d x.enc) = .d (D.b x.object.fixed) := by unfold XKsegCaller.enc loadBox; rfl
@[go_sem] theorem XKsegCaller.tk_Object_Fixed (x : XKsegCaller) : takeD false 1 (x.enc.cells.drop 4) = .d (D.b x.object.fixed) := by unfold XKsegCaller.enc takeD D.cells; rfl
@[go_sem] theorem XKsegCaller.st_Object_Fixed (x : XKsegCaller) (v : Bool) : storeBox 4 (.d (D.b v)) (.d x.enc) = .d ({ x with object := { x.object with fixed := v } } : XKsegCaller).enc := by unfold storeBox; rfl
@[go_sem] theorem XKsegCaller.ld_Object_Links (x : XKsegCaller) : loadBox false 5 1 (.d x.enc) = .d (encL D.u x.object.links) := by unfold XKsegCaller.enc loadBox; rfl
@[go_sem] theorem XKsegCaller.tk_Object_Links (x : XKsegCaller) : takeD false 1 (x.enc.cells.drop 5) = .d (encL D.u x.object.links) := by unfold XKsegCaller.enc takeD D.cells; rfl
@[go_sem] theorem XKsegCaller.st_Object_Links (x : XKsegCaller) (v : List Int) : storeBox 5 (.d (encL D.u v)) (.d x.enc) = .d ({ x with object := { x.object with links := v } } : XKsegCaller).enc := by unfold storeBox; rfl
@[go_sem] theorem XKsegCaller.ld_Object_Data (x : XKsegCaller) : loadBox false 6 1 (.d x.enc) = .d (encL D.u x.object.data) := by unfold XKsegCaller.enc loadBox; rfl
@[go_sem] theorem XKsegCaller.tk_Object_Data (x : XKsegCaller) : takeD false 1 (x.enc.cells.drop 6) = .d (encL D.u x.object.data) := by unfold XKsegCaller.enc takeD D.cells; rfl
@[go_sem] theorem XKsegCaller.st_Object_Data (x : XKsegCaller) (v : List Int) : storeBox 6 (.d (encL D.u v)) (.d x.enc) = .d ({ x with object := { x.object with data := v } } : XKsegCaller).enc := by unfold storeBox; rfl
@[go_sem] theorem XKsegCaller.ld_Object_Maps (x : XKsegCaller) : loadBox false 7 1 (.d x.enc) = .d (encL XPagesReach.enc x.object.maps) := by unfold XKsegCaller.enc loadBox; rfl
@[go_sem] theorem XKsegCaller.tk_Object_Maps (x : XKsegCaller) : takeD false 1 (x.enc.cells.drop 7) = .d (encL XPagesReach.enc x.object.maps) := by unfold XKsegCaller.enc takeD D.cells; rfl
@[go_sem] theorem XKsegCaller.st_Object_Maps (x : XKsegCaller) (v : List XPagesReach) : storeBox 7 (.d (encL XPagesReach.enc v)) (.d x.enc) = .d ({ x with object := { x.object with maps := v } } : XKsegCaller).enc := by unfold storeBox; rfl
@[go_sem] theorem XKsegCaller.ld_Object_Thread (x : XKsegCaller) : loadBox true 8 35 (.d x.enc) = .d (XThread.enc x.object.thread) := by unfold XKsegCaller.enc loadBox; rfl
@[go_sem] theorem XKsegCaller.tk_Object_Thread (x : XKsegCaller) : takeD true 35 (x.enc.cells.drop 8) = .d (XThread.enc x.object.thread) := by unfold XKsegCaller.enc takeD D.cells; rfl
@[go_sem] theorem XKsegCaller.st_Object_Thread (x : XKsegCaller) (v : XThread) : storeBox 8 (.d (XThread.enc v)) (.d x.enc) = .d ({ x with object := { x.object with thread := v } }).enc := by unfold storeBox; rfl
@[go_sem] theorem XKsegCaller.ld_Object_Thread_Regs (x : XKsegCaller) : loadBox true 8 16 (.d x.enc) = .d (encA16_u64 x.object.thread.regs) := by unfold XKsegCaller.enc loadBox; rfl
@[go_sem] theorem XKsegCaller.tk_Object_Thread_Regs (x : XKsegCaller) : takeD true 16 (x.enc.cells.drop 8) = .d (encA16_u64 x.object.thread.regs) := by unfold XKsegCaller.enc takeD D.cells; rfl
@[go_sem] theorem XKsegCaller.ld_Object_Thread_Regs_0 (x : XKsegCaller) : loadBox false 8 1 (.d x.enc) = .d (D.u (x.object.thread.regs 0)) := by unfold XKsegCaller.enc loadBox; rfl
@[go_sem] theorem XKsegCaller.tk_Object_Thread_Regs_0 (x : XKsegCaller) : takeD false 1 (x.enc.cells.drop 8) = .d (D.u (x.object.thread.regs 0)) := by unfold XKsegCaller.enc takeD D.cells; rfl
@[go_sem] theorem XKsegCaller.ld_Object_Thread_Regs_1 (x : XKsegCaller) : loadBox false 9 1 (.d x.enc) = .d (D.u (x.object.thread.regs 1)) := by unfold XKsegCaller.enc loadBox; rfl
@[go_sem] theorem XKsegCaller.tk_Object_Thread_Regs_1 (x : XKsegCaller) : takeD false 1 (x.enc.cells.drop 9) = .d (D.u (x.object.thread.regs 1)) := by unfold XKsegCaller.enc takeD D.cells; rfl
@[go_sem] theorem XKsegCaller.ld_Object_Thread_Regs_2 (x : XKsegCaller) : loadBox false 10 1 (.d x.enc) = .d (D.u (x.object.thread.regs 2)) := by unfold XKsegCaller.enc loadBox; rfl
@[go_sem] theorem XKsegCaller.tk_Object_Thread_Regs_2 (x : XKsegCaller) : takeD false 1 (x.enc.cells.drop 10) = .d (D.u (x.object.thread.regs 2)) := by unfold XKsegCaller.enc takeD D.cells; rfl
@[go_sem] theorem XKsegCaller.ld_Object_Thread_Regs_3 (x : XKsegCaller) : loadBox false 11 1 (.d x.enc) = .d (D.u (x.object.thread.regs 3)) := by unfold XKsegCaller.enc loadBox; rfl
@[go_sem] theorem XKsegCaller.tk_Object_Thread_Regs_3 (x : XKsegCaller) : takeD false 1 (x.enc.cells.drop 11) = .d (D.u (x.object.thread.regs 3)) := by unfold XKsegCaller.enc takeD D.cells; rfl
@[go_sem] theorem XKsegCaller.ld_Object_Thread_Regs_4 (x : XKsegCaller) : loadBox false 12 1 (.d x.enc) = .d (D.u (x.object.thread.regs 4)) := by unfold XKsegCaller.enc loadBox; rfl
@[go_sem] theorem XKsegCaller.tk_Object_Thread_Regs_4 (x : XKsegCaller) : takeD false 1 (x.enc.cells.drop 12) = .d (D.u (x.object.thread.regs 4)) := by unfold XKsegCaller.enc takeD D.cells; rfl
@[go_sem] theorem XKsegCaller.ld_Object_Thread_Regs_5 (x : XKsegCaller) : loadBox false 13 1 (.d x.enc) = .d (D.u (x.object.thread.regs 5)) := by unfold XKsegCaller.enc loadBox; rfl
@[go_sem] theorem XKsegCaller.tk_Object_Thread_Regs_5 (x : XKsegCaller) : takeD false 1 (x.enc.cells.drop 13) = .d (D.u (x.object.thread.regs 5)) := by unfold XKsegCaller.enc takeD D.cells; rfl
@[go_sem] theorem XKsegCaller.ld_Object_Thread_Regs_6 (x : XKsegCaller) : loadBox false 14 1 (.d x.enc) = .d (D.u (x.object.thread.regs 6)) := by unfold XKsegCaller.enc loadBox; rfl
@[go_sem] theorem XKsegCaller.tk_Object_Thread_Regs_6 (x : XKsegCaller) : takeD false 1 (x.enc.cells.drop 14) = .d (D.u (x.object.thread.regs 6)) := by unfold XKsegCaller.enc takeD D.cells; rfl
@[go_sem] theorem XKsegCaller.ld_Object_Thread_Regs_7 (x : XKsegCaller) : loadBox false 15 1 (.d x.enc) = .d (D.u (x.object.thread.regs 7)) := by unfold XKsegCaller.enc loadBox; rfl
@[go_sem] theorem XKsegCaller.tk_Object_Thread_Regs_7 (x : XKsegCaller) : takeD false 1 (x.enc.cells.drop 15) = .d (D.u (x.object.thread.regs 7)) := by unfold XKsegCaller.enc takeD D.cells; rfl
@[go_sem] theorem XKsegCaller.ld_Object_Thread_Regs_8 (x : XKsegCaller) : loadBox false 16 1 (.d x.enc) = .d (D.u (x.object.thread.regs 8)) := by unfold XKsegCaller.enc loadBox; rfl
@[go_sem] theorem XKsegCaller.tk_Object_Thread_Regs_8 (x : XKsegCaller) : takeD false 1 (x.enc.cells.drop 16) = .d (D.u (x.object.thread.regs 8)) := by unfold XKsegCaller.enc takeD D.cells; rfl
@[go_sem] theorem XKsegCaller.ld_Object_Thread_Regs_9 (x : XKsegCaller) : loadBox false 17 1 (.d x.enc) = .d (D.u (x.object.thread.regs 9)) := by unfold XKsegCaller.enc loadBox; rfl
@[go_sem] theorem XKsegCaller.tk_Object_Thread_Regs_9 (x : XKsegCaller) : takeD false 1 (x.enc.cells.drop 17) = .d (D.u (x.object.thread.regs 9)) := by unfold XKsegCaller.enc takeD D.cells; rfl
@[go_sem] theorem XKsegCaller.ld_Object_Thread_Regs_10 (x : XKsegCaller) : loadBox false 18 1 (.d x.enc) = .d (D.u (x.object.thread.regs 10)) := by unfold XKsegCaller.enc loadBox; rfl
@[go_sem] theorem XKsegCaller.tk_Object_Thread_Regs_10 (x : XKsegCaller) : takeD false 1 (x.enc.cells.drop 18) = .d (D.u (x.object.thread.regs 10)) := by unfold XKsegCaller.enc takeD D.cells; rfl
@[go_sem] theorem XKsegCaller.ld_Object_Thread_Regs_11 (x : XKsegCaller) : loadBox false 19 1 (.d x.enc) = .d (D.u (x.object.thread.regs 11)) := by unfold XKsegCaller.enc loadBox; rfl
@[go_sem] theorem XKsegCaller.tk_Object_Thread_Regs_11 (x : XKsegCaller) : takeD false 1 (x.enc.cells.drop 19) = .d (D.u (x.object.thread.regs 11)) := by unfold XKsegCaller.enc takeD D.cells; rfl
@[go_sem] theorem XKsegCaller.ld_Object_Thread_Regs_12 (x : XKsegCaller) : loadBox false 20 1 (.d x.enc) = .d (D.u (x.object.thread.regs 12)) := by unfold XKsegCaller.enc loadBox; rfl
@[go_sem] theorem XKsegCaller.tk_Object_Thread_Regs_12 (x : XKsegCaller) : takeD false 1 (x.enc.cells.drop 20) = .d (D.u (x.object.thread.regs 12)) := by unfold XKsegCaller.enc takeD D.cells; rfl
@[go_sem] theorem XKsegCaller.ld_Object_Thread_Regs_13 (x : XKsegCaller) : loadBox false 21 1 (.d x.enc) = .d (D.u (x.object.thread.regs 13)) := by unfold XKsegCaller.enc loadBox; rfl
@[go_sem] theorem XKsegCaller.tk_Object_Thread_Regs_13 (x : XKsegCaller) : takeD false 1 (x.enc.cells.drop 21) = .d (D.u (x.object.thread.regs 13)) := by unfold XKsegCaller.enc takeD D.cells; rfl
@[go_sem] theorem XKsegCaller.ld_Object_Thread_Regs_14 (x : XKsegCaller) : loadBox false 22 1 (.d x.enc) = .d (D.u (x.object.thread.regs 14)) := by unfold XKsegCaller.enc loadBox; rfl
@[go_sem] theorem XKsegCaller.tk_Object_Thread_Regs_14 (x : XKsegCaller) : takeD false 1 (x.enc.cells.drop 22) = .d (D.u (x.object.thread.regs 14)) := by unfold XKsegCaller.enc takeD D.cells; rfl
@[go_sem] theorem XKsegCaller.ld_Object_Thread_Regs_15 (x : XKsegCaller) : loadBox false 23 1 (.d x.enc) = .d (D.u (x.object.thread.regs 15)) := by unfold XKsegCaller.enc loadBox; rfl
@[go_sem] theorem XKsegCaller.tk_Object_Thread_Regs_15 (x : XKsegCaller) : takeD false 1 (x.enc.cells.drop 23) = .d (D.u (x.object.thread.regs 15)) := by unfold XKsegCaller.enc takeD D.cells; rfl
@[go_sem] theorem XKsegCaller.ld_Object_Thread_Pc (x : XKsegCaller) : loadBox false 24 1 (.d x.enc) = .d (D.u x.object.thread.pc) := by unfold XKsegCaller.enc loadBox; rfl
@[go_sem] theorem XKsegCaller.tk_Object_Thread_Pc (x : XKsegCaller) : takeD false 1 (x.enc.cells.drop 24) = .d (D.u x.object.thread.pc) := by unfold XKsegCaller.enc takeD D.cells; rfl
@[go_sem] theorem XKsegCaller.st_Object_Thread_Pc (x : XKsegCaller) (v : Int) : storeBox 24 (.d (D.u v)) (.d x.enc) = .d ({ x with object := { x.object with thread := { x.object.thread with pc := v } } } : XKsegCaller).enc := by unfold storeBox; rfl
@[go_sem] theorem XKsegCaller.ld_Object_Thread_Clear (x : XKsegCaller) : loadBox false 25 1 (.d x.enc) = .d (encL XPair.enc x.object.thread.clear) := by unfold XKsegCaller.enc loadBox; rfl
@[go_sem] theorem XKsegCaller.tk_Object_Thread_Clear (x : XKsegCaller) : takeD false 1 (x.enc.cells.drop 25) = .d (encL XPair.enc x.object.thread.clear) := by unfold XKsegCaller.enc takeD D.cells; rfl
@[go_sem] theorem XKsegCaller.st_Object_Thread_Clear (x : XKsegCaller) (v : List XPair) : storeBox 25 (.d (encL XPair.enc v)) (.d x.enc) = .d ({ x with object := { x.object with thread := { x.object.thread with clear := v } } } : XKsegCaller).enc := by unfold storeBox; rfl
@[go_sem] theorem XKsegCaller.ld_Object_Thread_Space (x : XKsegCaller) : loadBox true 26 2 (.d x.enc) = .d (XRef.enc x.object.thread.space) := by unfold XKsegCaller.enc loadBox; rfl
@[go_sem] theorem XKsegCaller.tk_Object_Thread_Space (x : XKsegCaller) : takeD true 2 (x.enc.cells.drop 26) = .d (XRef.enc x.object.thread.space) := by unfold XKsegCaller.enc takeD D.cells; rfl
@[go_sem] theorem XKsegCaller.st_Object_Thread_Space (x : XKsegCaller) (v : XRef) : storeBox 26 (.d (XRef.enc v)) (.d x.enc) = .d ({ x with object := { x.object with thread := { x.object.thread with space := v } } }).enc := by unfold storeBox; rfl
@[go_sem] theorem XKsegCaller.ld_Object_Thread_Space_Cont (x : XKsegCaller) : loadBox false 26 1 (.d x.enc) = .d (D.u x.object.thread.space.cont) := by unfold XKsegCaller.enc loadBox; rfl
@[go_sem] theorem XKsegCaller.tk_Object_Thread_Space_Cont (x : XKsegCaller) : takeD false 1 (x.enc.cells.drop 26) = .d (D.u x.object.thread.space.cont) := by unfold XKsegCaller.enc takeD D.cells; rfl
@[go_sem] theorem XKsegCaller.st_Object_Thread_Space_Cont (x : XKsegCaller) (v : Int) : storeBox 26 (.d (D.u v)) (.d x.enc) = .d ({ x with object := { x.object with thread := { x.object.thread with space := { x.object.thread.space with cont := v } } } } : XKsegCaller).enc := by unfold storeBox; rfl
@[go_sem] theorem XKsegCaller.ld_Object_Thread_Space_Id (x : XKsegCaller) : loadBox false 27 1 (.d x.enc) = .d (D.u x.object.thread.space.id) := by unfold XKsegCaller.enc loadBox; rfl
@[go_sem] theorem XKsegCaller.tk_Object_Thread_Space_Id (x : XKsegCaller) : takeD false 1 (x.enc.cells.drop 27) = .d (D.u x.object.thread.space.id) := by unfold XKsegCaller.enc takeD D.cells; rfl
@[go_sem] theorem XKsegCaller.st_Object_Thread_Space_Id (x : XKsegCaller) (v : Int) : storeBox 27 (.d (D.u v)) (.d x.enc) = .d ({ x with object := { x.object with thread := { x.object.thread with space := { x.object.thread.space with id := v } } } } : XKsegCaller).enc := by unfold storeBox; rfl
@[go_sem] theorem XKsegCaller.ld_Object_Thread_Handler (x : XKsegCaller) : loadBox false 28 1 (.d x.enc) = .d (D.u x.object.thread.handler) := by unfold XKsegCaller.enc loadBox; rfl
@[go_sem] theorem XKsegCaller.tk_Object_Thread_Handler (x : XKsegCaller) : takeD false 1 (x.enc.cells.drop 28) = .d (D.u x.object.thread.handler) := by unfold XKsegCaller.enc takeD D.cells; rfl
@[go_sem] theorem XKsegCaller.st_Object_Thread_Handler (x : XKsegCaller) (v : Int) : storeBox 28 (.d (D.u v)) (.d x.enc) = .d ({ x with object := { x.object with thread := { x.object.thread with handler := v } } } : XKsegCaller).enc := by unfold storeBox; rfl
@[go_sem] theorem XKsegCaller.ld_Object_Thread_Vector (x : XKsegCaller) : loadBox false 29 1 (.d x.enc) = .d (D.u x.object.thread.vector) := by unfold XKsegCaller.enc loadBox; rfl
@[go_sem] theorem XKsegCaller.tk_Object_Thread_Vector (x : XKsegCaller) : takeD false 1 (x.enc.cells.drop 29) = .d (D.u x.object.thread.vector) := by unfold XKsegCaller.enc takeD D.cells; rfl
@[go_sem] theorem XKsegCaller.st_Object_Thread_Vector (x : XKsegCaller) (v : Int) : storeBox 29 (.d (D.u v)) (.d x.enc) = .d ({ x with object := { x.object with thread := { x.object.thread with vector := v } } } : XKsegCaller).enc := by unfold storeBox; rfl
@[go_sem] theorem XKsegCaller.ld_Object_Thread_State (x : XKsegCaller) : loadBox false 30 1 (.d x.enc) = .d (D.i x.object.thread.state) := by unfold XKsegCaller.enc loadBox; rfl
@[go_sem] theorem XKsegCaller.tk_Object_Thread_State (x : XKsegCaller) : takeD false 1 (x.enc.cells.drop 30) = .d (D.i x.object.thread.state) := by unfold XKsegCaller.enc takeD D.cells; rfl
@[go_sem] theorem XKsegCaller.st_Object_Thread_State (x : XKsegCaller) (v : Int) : storeBox 30 (.d (D.i v)) (.d x.enc) = .d ({ x with object := { x.object with thread := { x.object.thread with state := v } } } : XKsegCaller).enc := by unfold storeBox; rfl
@[go_sem] theorem XKsegCaller.ld_Object_Thread_Wait (x : XKsegCaller) : loadBox true 31 5 (.d x.enc) = .d (XWait.enc x.object.thread.wait) := by unfold XKsegCaller.enc loadBox; rfl
@[go_sem] theorem XKsegCaller.tk_Object_Thread_Wait (x : XKsegCaller) : takeD true 5 (x.enc.cells.drop 31) = .d (XWait.enc x.object.thread.wait) := by unfold XKsegCaller.enc takeD D.cells; rfl
@[go_sem] theorem XKsegCaller.st_Object_Thread_Wait (x : XKsegCaller) (v : XWait) : storeBox 31 (.d (XWait.enc v)) (.d x.enc) = .d ({ x with object := { x.object with thread := { x.object.thread with wait := v } } }).enc := by unfold storeBox; rfl
@[go_sem] theorem XKsegCaller.ld_Object_Thread_Wait_Ref (x : XKsegCaller) : loadBox true 31 2 (.d x.enc) = .d (XRef.enc x.object.thread.wait.ref) := by unfold XKsegCaller.enc loadBox; rfl
@[go_sem] theorem XKsegCaller.tk_Object_Thread_Wait_Ref (x : XKsegCaller) : takeD true 2 (x.enc.cells.drop 31) = .d (XRef.enc x.object.thread.wait.ref) := by unfold XKsegCaller.enc takeD D.cells; rfl
@[go_sem] theorem XKsegCaller.st_Object_Thread_Wait_Ref (x : XKsegCaller) (v : XRef) : storeBox 31 (.d (XRef.enc v)) (.d x.enc) = .d ({ x with object := { x.object with thread := { x.object.thread with wait := { x.object.thread.wait with ref := v } } } }).enc := by unfold storeBox; rfl
@[go_sem] theorem XKsegCaller.ld_Object_Thread_Wait_Ref_Cont (x : XKsegCaller) : loadBox false 31 1 (.d x.enc) = .d (D.u x.object.thread.wait.ref.cont) := by unfold XKsegCaller.enc loadBox; rfl
@[go_sem] theorem XKsegCaller.tk_Object_Thread_Wait_Ref_Cont (x : XKsegCaller) : takeD false 1 (x.enc.cells.drop 31) = .d (D.u x.object.thread.wait.ref.cont) := by unfold XKsegCaller.enc takeD D.cells; rfl
@[go_sem] theorem XKsegCaller.st_Object_Thread_Wait_Ref_Cont (x : XKsegCaller) (v : Int) : storeBox 31 (.d (D.u v)) (.d x.enc) = .d ({ x with object := { x.object with thread := { x.object.thread with wait := { x.object.thread.wait with ref := { x.object.thread.wait.ref with cont := v } } } } } : XKsegCaller).enc := by unfold storeBox; rfl
@[go_sem] theorem XKsegCaller.ld_Object_Thread_Wait_Ref_Id (x : XKsegCaller) : loadBox false 32 1 (.d x.enc) = .d (D.u x.object.thread.wait.ref.id) := by unfold XKsegCaller.enc loadBox; rfl
@[go_sem] theorem XKsegCaller.tk_Object_Thread_Wait_Ref_Id (x : XKsegCaller) : takeD false 1 (x.enc.cells.drop 32) = .d (D.u x.object.thread.wait.ref.id) := by unfold XKsegCaller.enc takeD D.cells; rfl
@[go_sem] theorem XKsegCaller.st_Object_Thread_Wait_Ref_Id (x : XKsegCaller) (v : Int) : storeBox 32 (.d (D.u v)) (.d x.enc) = .d ({ x with object := { x.object with thread := { x.object.thread with wait := { x.object.thread.wait with ref := { x.object.thread.wait.ref with id := v } } } } } : XKsegCaller).enc := by unfold storeBox; rfl
@[go_sem] theorem XKsegCaller.ld_Object_Thread_Wait_Index (x : XKsegCaller) : loadBox false 33 1 (.d x.enc) = .d (D.u x.object.thread.wait.index) := by unfold XKsegCaller.enc loadBox; rfl
@[go_sem] theorem XKsegCaller.tk_Object_Thread_Wait_Index (x : XKsegCaller) : takeD false 1 (x.enc.cells.drop 33) = .d (D.u x.object.thread.wait.index) := by unfold XKsegCaller.enc takeD D.cells; rfl
@[go_sem] theorem XKsegCaller.st_Object_Thread_Wait_Index (x : XKsegCaller) (v : Int) : storeBox 33 (.d (D.u v)) (.d x.enc) = .d ({ x with object := { x.object with thread := { x.object.thread with wait := { x.object.thread.wait with index := v } } } } : XKsegCaller).enc := by unfold storeBox; rfl
@[go_sem] theorem XKsegCaller.ld_Object_Thread_Wait_Val (x : XKsegCaller) : loadBox false 34 1 (.d x.enc) = .d (D.u x.object.thread.wait.val) := by unfold XKsegCaller.enc loadBox; rfl
@[go_sem] theorem XKsegCaller.tk_Object_Thread_Wait_Val (x : XKsegCaller) : takeD false 1 (x.enc.cells.drop 34) = .d (D.u x.object.thread.wait.val) := by unfold XKsegCaller.enc takeD D.cells; rfl
@[go_sem] theorem XKsegCaller.st_Object_Thread_Wait_Val (x : XKsegCaller) (v : Int) : storeBox 34 (.d (D.u v)) (.d x.enc) = .d ({ x with object := { x.object with thread := { x.object.thread with wait := { x.object.thread.wait with val := v } } } } : XKsegCaller).enc := by unfold storeBox; rfl
@[go_sem] theorem XKsegCaller.ld_Object_Thread_Wait_Dev (x : XKsegCaller) : loadBox false 35 1 (.d x.enc) = .d (D.b x.object.thread.wait.dev) := by unfold XKsegCaller.enc loadBox; rfl
@[go_sem] theorem XKsegCaller.tk_Object_Thread_Wait_Dev (x : XKsegCaller) : takeD false 1 (x.enc.cells.drop 35) = .d (D.b x.object.thread.wait.dev) := by unfold XKsegCaller.enc takeD D.cells; rfl
@[go_sem] theorem XKsegCaller.st_Object_Thread_Wait_Dev (x : XKsegCaller) (v : Bool) : storeBox 35 (.d (D.b v)) (.d x.enc) = .d ({ x with object := { x.object with thread := { x.object.thread with wait := { x.object.thread.wait with dev := v } } } } : XKsegCaller).enc := by unfold storeBox; rfl
@[go_sem] theorem XKsegCaller.ld_Object_Thread_Alerts (x : XKsegCaller) : loadBox false 36 1 (.d x.enc) = .d (encL D.u x.object.thread.alerts) := by unfold XKsegCaller.enc loadBox; rfl
@[go_sem] theorem XKsegCaller.tk_Object_Thread_Alerts (x : XKsegCaller) : takeD false 1 (x.enc.cells.drop 36) = .d (encL D.u x.object.thread.alerts) := by unfold XKsegCaller.enc takeD D.cells; rfl
@[go_sem] theorem XKsegCaller.st_Object_Thread_Alerts (x : XKsegCaller) (v : List Int) : storeBox 36 (.d (encL D.u v)) (.d x.enc) = .d ({ x with object := { x.object with thread := { x.object.thread with alerts := v } } } : XKsegCaller).enc := by unfold storeBox; rfl
@[go_sem] theorem XKsegCaller.ld_Object_Thread_Span (x : XKsegCaller) : loadBox true 37 2 (.d x.enc) = .d (XSpan.enc x.object.thread.span) := by unfold XKsegCaller.enc loadBox; rfl
@[go_sem] theorem XKsegCaller.tk_Object_Thread_Span (x : XKsegCaller) : takeD true 2 (x.enc.cells.drop 37) = .d (XSpan.enc x.object.thread.span) := by unfold XKsegCaller.enc takeD D.cells; rfl
@[go_sem] theorem XKsegCaller.st_Object_Thread_Span (x : XKsegCaller) (v : XSpan) : storeBox 37 (.d (XSpan.enc v)) (.d x.enc) = .d ({ x with object := { x.object with thread := { x.object.thread with span := v } } }).enc := by unfold storeBox; rfl
@[go_sem] theorem XKsegCaller.ld_Object_Thread_Span_Lo (x : XKsegCaller) : loadBox false 37 1 (.d x.enc) = .d (D.u x.object.thread.span.lo) := by unfold XKsegCaller.enc loadBox; rfl
@[go_sem] theorem XKsegCaller.tk_Object_Thread_Span_Lo (x : XKsegCaller) : takeD false 1 (x.enc.cells.drop 37) = .d (D.u x.object.thread.span.lo) := by unfold XKsegCaller.enc takeD D.cells; rfl
@[go_sem] theorem XKsegCaller.st_Object_Thread_Span_Lo (x : XKsegCaller) (v : Int) : storeBox 37 (.d (D.u v)) (.d x.enc) = .d ({ x with object := { x.object with thread := { x.object.thread with span := { x.object.thread.span with lo := v } } } } : XKsegCaller).enc := by unfold storeBox; rfl
@[go_sem] theorem XKsegCaller.ld_Object_Thread_Span_Hi (x : XKsegCaller) : loadBox false 38 1 (.d x.enc) = .d (D.u x.object.thread.span.hi) := by unfold XKsegCaller.enc loadBox; rfl
@[go_sem] theorem XKsegCaller.tk_Object_Thread_Span_Hi (x : XKsegCaller) : takeD false 1 (x.enc.cells.drop 38) = .d (D.u x.object.thread.span.hi) := by unfold XKsegCaller.enc takeD D.cells; rfl
@[go_sem] theorem XKsegCaller.st_Object_Thread_Span_Hi (x : XKsegCaller) (v : Int) : storeBox 38 (.d (D.u v)) (.d x.enc) = .d ({ x with object := { x.object with thread := { x.object.thread with span := { x.object.thread.span with hi := v } } } } : XKsegCaller).enc := by unfold storeBox; rfl
@[go_sem] theorem XKsegCaller.ld_Object_Thread_Labs (x : XKsegCaller) : loadBox true 39 4 (.d x.enc) = .d (encA4_LXPair x.object.thread.labs) := by unfold XKsegCaller.enc loadBox; rfl
@[go_sem] theorem XKsegCaller.tk_Object_Thread_Labs (x : XKsegCaller) : takeD true 4 (x.enc.cells.drop 39) = .d (encA4_LXPair x.object.thread.labs) := by unfold XKsegCaller.enc takeD D.cells; rfl
@[go_sem] theorem XKsegCaller.ld_Object_Thread_Labs_0 (x : XKsegCaller) : loadBox false 39 1 (.d x.enc) = .d (encL XPair.enc (x.object.thread.labs 0)) := by unfold XKsegCaller.enc loadBox; rfl
@[go_sem] theorem XKsegCaller.tk_Object_Thread_Labs_0 (x : XKsegCaller) : takeD false 1 (x.enc.cells.drop 39) = .d (encL XPair.enc (x.object.thread.labs 0)) := by unfold XKsegCaller.enc takeD D.cells; rfl
@[go_sem] theorem XKsegCaller.ld_Object_Thread_Labs_1 (x : XKsegCaller) : loadBox false 40 1 (.d x.enc) = .d (encL XPair.enc (x.object.thread.labs 1)) := by unfold XKsegCaller.enc loadBox; rfl
@[go_sem] theorem XKsegCaller.tk_Object_Thread_Labs_1 (x : XKsegCaller) : takeD false 1 (x.enc.cells.drop 40) = .d (encL XPair.enc (x.object.thread.labs 1)) := by unfold XKsegCaller.enc takeD D.cells; rfl
@[go_sem] theorem XKsegCaller.ld_Object_Thread_Labs_2 (x : XKsegCaller) : loadBox false 41 1 (.d x.enc) = .d (encL XPair.enc (x.object.thread.labs 2)) := by unfold XKsegCaller.enc loadBox; rfl
@[go_sem] theorem XKsegCaller.tk_Object_Thread_Labs_2 (x : XKsegCaller) : takeD false 1 (x.enc.cells.drop 41) = .d (encL XPair.enc (x.object.thread.labs 2)) := by unfold XKsegCaller.enc takeD D.cells; rfl
@[go_sem] theorem XKsegCaller.ld_Object_Thread_Labs_3 (x : XKsegCaller) : loadBox false 42 1 (.d x.enc) = .d (encL XPair.enc (x.object.thread.labs 3)) := by unfold XKsegCaller.enc loadBox; rfl
@[go_sem] theorem XKsegCaller.tk_Object_Thread_Labs_3 (x : XKsegCaller) : takeD false 1 (x.enc.cells.drop 42) = .d (encL XPair.enc (x.object.thread.labs 3)) := by unfold XKsegCaller.enc takeD D.cells; rfl
@[go_sem] theorem XKsegCaller.ld_Object_Gate (x : XKsegCaller) : loadBox true 43 6 (.d x.enc) = .d (XGate.enc x.object.gate) := by unfold XKsegCaller.enc loadBox; rfl
@[go_sem] theorem XKsegCaller.tk_Object_Gate (x : XKsegCaller) : takeD true 6 (x.enc.cells.drop 43) = .d (XGate.enc x.object.gate) := by unfold XKsegCaller.enc takeD D.cells; rfl
@[go_sem] theorem XKsegCaller.st_Object_Gate (x : XKsegCaller) (v : XGate) : storeBox 43 (.d (XGate.enc v)) (.d x.enc) = .d ({ x with object := { x.object with gate := v } }).enc := by unfold storeBox; rfl
@[go_sem] theorem XKsegCaller.ld_Object_Gate_Grant (x : XKsegCaller) : loadBox false 43 1 (.d x.enc) = .d (encL XPair.enc x.object.gate.grant) := by unfold XKsegCaller.enc loadBox; rfl
@[go_sem] theorem XKsegCaller.tk_Object_Gate_Grant (x : XKsegCaller) : takeD false 1 (x.enc.cells.drop 43) = .d (encL XPair.enc x.object.gate.grant) := by unfold XKsegCaller.enc takeD D.cells; rfl
@[go_sem] theorem XKsegCaller.st_Object_Gate_Grant (x : XKsegCaller) (v : List XPair) : storeBox 43 (.d (encL XPair.enc v)) (.d x.enc) = .d ({ x with object := { x.object with gate := { x.object.gate with grant := v } } } : XKsegCaller).enc := by unfold storeBox; rfl
@[go_sem] theorem XKsegCaller.ld_Object_Gate_Clear (x : XKsegCaller) : loadBox false 44 1 (.d x.enc) = .d (encL XPair.enc x.object.gate.clear) := by unfold XKsegCaller.enc loadBox; rfl
@[go_sem] theorem XKsegCaller.tk_Object_Gate_Clear (x : XKsegCaller) : takeD false 1 (x.enc.cells.drop 44) = .d (encL XPair.enc x.object.gate.clear) := by unfold XKsegCaller.enc takeD D.cells; rfl
@[go_sem] theorem XKsegCaller.st_Object_Gate_Clear (x : XKsegCaller) (v : List XPair) : storeBox 44 (.d (encL XPair.enc v)) (.d x.enc) = .d ({ x with object := { x.object with gate := { x.object.gate with clear := v } } } : XKsegCaller).enc := by unfold storeBox; rfl
@[go_sem] theorem XKsegCaller.ld_Object_Gate_Space (x : XKsegCaller) : loadBox true 45 2 (.d x.enc) = .d (XRef.enc x.object.gate.space) := by unfold XKsegCaller.enc loadBox; rfl
@[go_sem] theorem XKsegCaller.tk_Object_Gate_Space (x : XKsegCaller) : takeD true 2 (x.enc.cells.drop 45) = .d (XRef.enc x.object.gate.space) := by unfold XKsegCaller.enc takeD D.cells; rfl
@[go_sem] theorem XKsegCaller.st_Object_Gate_Space (x : XKsegCaller) (v : XRef) : storeBox 45 (.d (XRef.enc v)) (.d x.enc) = .d ({ x with object := { x.object with gate := { x.object.gate with space := v } } }).enc := by unfold storeBox; rfl
@[go_sem] theorem XKsegCaller.ld_Object_Gate_Space_Cont (x : XKsegCaller) : loadBox false 45 1 (.d x.enc) = .d (D.u x.object.gate.space.cont) := by unfold XKsegCaller.enc loadBox; rfl
@[go_sem] theorem XKsegCaller.tk_Object_Gate_Space_Cont (x : XKsegCaller) : takeD false 1 (x.enc.cells.drop 45) = .d (D.u x.object.gate.space.cont) := by unfold XKsegCaller.enc takeD D.cells; rfl
@[go_sem] theorem XKsegCaller.st_Object_Gate_Space_Cont (x : XKsegCaller) (v : Int) : storeBox 45 (.d (D.u v)) (.d x.enc) = .d ({ x with object := { x.object with gate := { x.object.gate with space := { x.object.gate.space with cont := v } } } } : XKsegCaller).enc := by unfold storeBox; rfl
@[go_sem] theorem XKsegCaller.ld_Object_Gate_Space_Id (x : XKsegCaller) : loadBox false 46 1 (.d x.enc) = .d (D.u x.object.gate.space.id) := by unfold XKsegCaller.enc loadBox; rfl
@[go_sem] theorem XKsegCaller.tk_Object_Gate_Space_Id (x : XKsegCaller) : takeD false 1 (x.enc.cells.drop 46) = .d (D.u x.object.gate.space.id) := by unfold XKsegCaller.enc takeD D.cells; rfl
@[go_sem] theorem XKsegCaller.st_Object_Gate_Space_Id (x : XKsegCaller) (v : Int) : storeBox 46 (.d (D.u v)) (.d x.enc) = .d ({ x with object := { x.object with gate := { x.object.gate with space := { x.object.gate.space with id := v } } } } : XKsegCaller).enc := by unfold storeBox; rfl
@[go_sem] theorem XKsegCaller.ld_Object_Gate_Pc (x : XKsegCaller) : loadBox false 47 1 (.d x.enc) = .d (D.u x.object.gate.pc) := by unfold XKsegCaller.enc loadBox; rfl
@[go_sem] theorem XKsegCaller.tk_Object_Gate_Pc (x : XKsegCaller) : takeD false 1 (x.enc.cells.drop 47) = .d (D.u x.object.gate.pc) := by unfold XKsegCaller.enc takeD D.cells; rfl
@[go_sem] theorem XKsegCaller.st_Object_Gate_Pc (x : XKsegCaller) (v : Int) : storeBox 47 (.d (D.u v)) (.d x.enc) = .d ({ x with object := { x.object with gate := { x.object.gate with pc := v } } } : XKsegCaller).enc := by unfold storeBox; rfl
@[go_sem] theorem XKsegCaller.ld_Object_Gate_Arg (x : XKsegCaller) : loadBox false 48 1 (.d x.enc) = .d (D.u x.object.gate.arg) := by unfold XKsegCaller.enc loadBox; rfl
@[go_sem] theorem XKsegCaller.tk_Object_Gate_Arg (x : XKsegCaller) : takeD false 1 (x.enc.cells.drop 48) = .d (D.u x.object.gate.arg) := by unfold XKsegCaller.enc takeD D.cells; rfl
@[go_sem] theorem XKsegCaller.st_Object_Gate_Arg (x : XKsegCaller) (v : Int) : storeBox 48 (.d (D.u v)) (.d x.enc) = .d ({ x with object := { x.object with gate := { x.object.gate with arg := v } } } : XKsegCaller).enc := by unfold storeBox; rfl
@[go_sem] theorem XKsegCaller.ld_Object_In (x : XKsegCaller) : loadBox false 49 1 (.d x.enc) = .d (encL D.u x.object.in') := by unfold XKsegCaller.enc loadBox; rfl
@[go_sem] theorem XKsegCaller.tk_Object_In (x : XKsegCaller) : takeD false 1 (x.enc.cells.drop 49) = .d (encL D.u x.object.in') := by unfold XKsegCaller.enc takeD D.cells; rfl
@[go_sem] theorem XKsegCaller.st_Object_In (x : XKsegCaller) (v : List Int) : storeBox 49 (.d (encL D.u v)) (.d x.enc) = .d ({ x with object := { x.object with in' := v } } : XKsegCaller).enc := by unfold storeBox; rfl
@[go_sem] theorem XKsegCaller.ld_Object_Out (x : XKsegCaller) : loadBox false 50 1 (.d x.enc) = .d (encL D.u x.object.out) := by unfold XKsegCaller.enc loadBox; rfl
@[go_sem] theorem XKsegCaller.tk_Object_Out (x : XKsegCaller) : takeD false 1 (x.enc.cells.drop 50) = .d (encL D.u x.object.out) := by unfold XKsegCaller.enc takeD D.cells; rfl
@[go_sem] theorem XKsegCaller.st_Object_Out (x : XKsegCaller) (v : List Int) : storeBox 50 (.d (encL D.u v)) (.d x.enc) = .d ({ x with object := { x.object with out := v } } : XKsegCaller).enc := by unfold storeBox; rfl
@[go_sem] theorem XKsegCaller.ld_w (x : XKsegCaller) : loadBox true 51 4 (.d x.enc) = .d (XWorld.enc x.w) := by unfold XKsegCaller.enc loadBox; rfl
@[go_sem] theorem XKsegCaller.tk_w (x : XKsegCaller) : takeD true 4 (x.enc.cells.drop 51) = .d (XWorld.enc x.w) := by unfold XKsegCaller.enc takeD D.cells; rfl
@[go_sem] theorem XKsegCaller.st_w (x : XKsegCaller) (v : XWorld) : storeBox 51 (.d (XWorld.enc v)) (.d x.enc) = .d ({ x with w := v }).enc := by unfold storeBox; rfl
@[go_sem] theorem XKsegCaller.ld_w_Time (x : XKsegCaller) : loadBox false 51 1 (.d x.enc) = .d (D.i x.w.time) := by unfold XKsegCaller.enc loadBox; rfl
@[go_sem] theorem XKsegCaller.tk_w_Time (x : XKsegCaller) : takeD false 1 (x.enc.cells.drop 51) = .d (D.i x.w.time) := by unfold XKsegCaller.enc takeD D.cells; rfl
@[go_sem] theorem XKsegCaller.st_w_Time (x : XKsegCaller) (v : Int) : storeBox 51 (.d (D.i v)) (.d x.enc) = .d ({ x with w := { x.w with time := v } } : XKsegCaller).enc := by unfold storeBox; rfl
@[go_sem] theorem XKsegCaller.ld_w_Key (x : XKsegCaller) : loadBox false 52 1 (.d x.enc) = .d (D.u x.w.key) := by unfold XKsegCaller.enc loadBox; rfl
@[go_sem] theorem XKsegCaller.tk_w_Key (x : XKsegCaller) : takeD false 1 (x.enc.cells.drop 52) = .d (D.u x.w.key) := by unfold XKsegCaller.enc takeD D.cells; rfl
@[go_sem] theorem XKsegCaller.st_w_Key (x : XKsegCaller) (v : Int) : storeBox 52 (.d (D.u v)) (.d x.enc) = .d ({ x with w := { x.w with key := v } } : XKsegCaller).enc := by unfold storeBox; rfl
@[go_sem] theorem XKsegCaller.ld_w_Root (x : XKsegCaller) : loadBox false 53 1 (.d x.enc) = .d (D.u x.w.root) := by unfold XKsegCaller.enc loadBox; rfl
@[go_sem] theorem XKsegCaller.tk_w_Root (x : XKsegCaller) : takeD false 1 (x.enc.cells.drop 53) = .d (D.u x.w.root) := by unfold XKsegCaller.enc takeD D.cells; rfl
@[go_sem] theorem XKsegCaller.st_w_Root (x : XKsegCaller) (v : Int) : storeBox 53 (.d (D.u v)) (.d x.enc) = .d ({ x with w := { x.w with root := v } } : XKsegCaller).enc := by unfold storeBox; rfl
@[go_sem] theorem XKsegCaller.ld_w_Objects (x : XKsegCaller) : loadBox false 54 1 (.d x.enc) = .d (encL XObject.enc x.w.objects) := by unfold XKsegCaller.enc loadBox; rfl
@[go_sem] theorem XKsegCaller.tk_w_Objects (x : XKsegCaller) : takeD false 1 (x.enc.cells.drop 54) = .d (encL XObject.enc x.w.objects) := by unfold XKsegCaller.enc takeD D.cells; rfl
@[go_sem] theorem XKsegCaller.st_w_Objects (x : XKsegCaller) (v : List XObject) : storeBox 54 (.d (encL XObject.enc v)) (.d x.enc) = .d ({ x with w := { x.w with objects := v } } : XKsegCaller).enc := by unfold storeBox; rfl
@[go_sem] theorem XKsegCaller.ld_a (x : XKsegCaller) : loadBox true 55 7 (.d x.enc) = .d (encA7_u64 x.a) := by unfold XKsegCaller.enc loadBox; rfl
@[go_sem] theorem XKsegCaller.tk_a (x : XKsegCaller) : takeD true 7 (x.enc.cells.drop 55) = .d (encA7_u64 x.a) := by unfold XKsegCaller.enc takeD D.cells; rfl
@[go_sem] theorem XKsegCaller.ld_a_0 (x : XKsegCaller) : loadBox false 55 1 (.d x.enc) = .d (D.u (x.a 0)) := by unfold XKsegCaller.enc loadBox; rfl
@[go_sem] theorem XKsegCaller.tk_a_0 (x : XKsegCaller) : takeD false 1 (x.enc.cells.drop 55) = .d (D.u (x.a 0)) := by unfold XKsegCaller.enc takeD D.cells; rfl
@[go_sem] theorem XKsegCaller.ld_a_1 (x : XKsegCaller) : loadBox false 56 1 (.d x.enc) = .d (D.u (x.a 1)) := by unfold XKsegCaller.enc loadBox; rfl
@[go_sem] theorem XKsegCaller.tk_a_1 (x : XKsegCaller) : takeD false 1 (x.enc.cells.drop 56) = .d (D.u (x.a 1)) := by unfold XKsegCaller.enc takeD D.cells; rfl
@[go_sem] theorem XKsegCaller.ld_a_2 (x : XKsegCaller) : loadBox false 57 1 (.d x.enc) = .d (D.u (x.a 2)) := by unfold XKsegCaller.enc loadBox; rfl
@[go_sem] theorem XKsegCaller.tk_a_2 (x : XKsegCaller) : takeD false 1 (x.enc.cells.drop 57) = .d (D.u (x.a 2)) := by unfold XKsegCaller.enc takeD D.cells; rfl
@[go_sem] theorem XKsegCaller.ld_a_3 (x : XKsegCaller) : loadBox false 58 1 (.d x.enc) = .d (D.u (x.a 3)) := by unfold XKsegCaller.enc loadBox; rfl
@[go_sem] theorem XKsegCaller.tk_a_3 (x : XKsegCaller) : takeD false 1 (x.enc.cells.drop 58) = .d (D.u (x.a 3)) := by unfold XKsegCaller.enc takeD D.cells; rfl
@[go_sem] theorem XKsegCaller.ld_a_4 (x : XKsegCaller) : loadBox false 59 1 (.d x.enc) = .d (D.u (x.a 4)) := by unfold XKsegCaller.enc loadBox; rfl
@[go_sem] theorem XKsegCaller.tk_a_4 (x : XKsegCaller) : takeD false 1 (x.enc.cells.drop 59) = .d (D.u (x.a 4)) := by unfold XKsegCaller.enc takeD D.cells; rfl
@[go_sem] theorem XKsegCaller.ld_a_5 (x : XKsegCaller) : loadBox false 60 1 (.d x.enc) = .d (D.u (x.a 5)) := by unfold XKsegCaller.enc loadBox; rfl
@[go_sem] theorem XKsegCaller.tk_a_5 (x : XKsegCaller) : takeD false 1 (x.enc.cells.drop 60) = .d (D.u (x.a 5)) := by unfold XKsegCaller.enc takeD D.cells; rfl
@[go_sem] theorem XKsegCaller.ld_a_6 (x : XKsegCaller) : loadBox false 61 1 (.d x.enc) = .d (D.u (x.a 6)) := by unfold XKsegCaller.enc loadBox; rfl
@[go_sem] theorem XKsegCaller.tk_a_6 (x : XKsegCaller) : takeD false 1 (x.enc.cells.drop 61) = .d (D.u (x.a 6)) := by unfold XKsegCaller.enc takeD D.cells; rfl
structure XKsegThrown where
  why : Int
def XKsegThrown.zero : XKsegThrown := ⟨0⟩
def XKsegThrown.enc (x : XKsegThrown) : D := .agg [D.i x.why]
@[go_sem] theorem XKsegThrown.len (x : XKsegThrown) : x.enc.cells.length = 1 := rfl
@[go_sem] theorem XKsegThrown.vlen (x : XKsegThrown) : (V.d x.enc).cells.length = 1 := rfl
@[go_sem] theorem XKsegThrown.zcells : (V.d XKsegThrown.zero.enc).cells = [.d (D.i XKsegThrown.zero.why)] := rfl
@[go_sem] theorem XKsegThrown.z_why : XKsegThrown.zero.why = 0 := rfl
@[go_sem] theorem XKsegThrown.isStr (x : XKsegThrown) : (V.d x.enc).isStr = true := rfl
theorem XKsegThrown.agg (x : XKsegThrown) : x.enc = .agg [D.i x.why] := rfl
@[go_sem] theorem XKsegThrown.toD (x : XKsegThrown) : V.toD (V.d x.enc) = some x.enc := rfl
@[go_sem] theorem XKsegThrown.ld (x : XKsegThrown) : loadBox true 0 1 (.d x.enc) = .d x.enc := by unfold XKsegThrown.enc loadBox; rfl
@[go_sem] theorem XKsegThrown.tk (x : XKsegThrown) : takeD true 1 x.enc.cells = .d x.enc := by unfold XKsegThrown.enc takeD D.cells; rfl
@[go_sem] theorem XKsegThrown.st (x : XKsegThrown) (c : V) (h : c.cells.length = 1) : storeBox 0 (.d x.enc) c = .d x.enc := by unfold storeBox; rw [if_pos ⟨rfl, by rw [h]; rfl⟩]
@[go_sem] theorem XKsegThrown.ld_why (x : XKsegThrown) : loadBox false 0 1 (.d x.enc) = .d (D.i x.why) := by unfold XKsegThrown.enc loadBox; rfl
@[go_sem] theorem XKsegThrown.tk_why (x : XKsegThrown) : takeD false 1 (x.enc.cells) = .d (D.i x.why) := by unfold XKsegThrown.enc takeD D.cells; rfl
structure XKobjCaller where
  object : XObject
  w : XWorld
  a : Fin 7 → Int
def XKobjCaller.zero : XKobjCaller := ⟨XObject.zero, XWorld.zero, (fun _ => 0)⟩
def XKobjCaller.enc (x : XKobjCaller) : D := .agg [D.u x.object.id, D.i x.object.kind, encL XPair.enc x.object.label, D.i x.object.quota, D.b x.object.fixed, encL D.u x.object.links, encL D.u x.object.data, encL XPagesReach.enc x.object.maps, D.u (x.object.thread.regs 0), D.u (x.object.thread.regs 1), D.u (x.object.thread.regs 2), D.u (x.object.thread.regs 3), D.u (x.object.thread.regs 4), D.u (x.object.thread.regs 5), D.u (x.object.thread.regs 6), D.u (x.object.thread.regs 7), D.u (x.object.thread.regs 8), D.u (x.object.thread.regs 9), D.u (x.object.thread.regs 10), D.u (x.object.thread.regs 11), D.u (x.object.thread.regs 12), D.u (x.object.thread.regs 13), D.u (x.object.thread.regs 14), D.u (x.object.thread.regs 15), D.u x.object.thread.pc, encL XPair.enc x.object.thread.clear, D.u x.object.thread.space.cont, D.u x.object.thread.space.id, D.u x.object.thread.handler, D.u x.object.thread.vector, D.i x.object.thread.state, D.u x.object.thread.wait.ref.cont, D.u x.object.thread.wait.ref.id, D.u x.object.thread.wait.index, D.u x.object.thread.wait.val, D.b x.object.thread.wait.dev, encL D.u x.object.thread.alerts, D.u x.object.thread.span.lo, D.u x.object.thread.span.hi, encL XPair.enc (x.object.thread.labs 0), encL XPair.enc (x.object.thread.labs 1), encL XPair.enc (x.object.thread.labs 2), encL XPair.enc (x.object.thread.labs 3), encL XPair.enc x.object.gate.grant, encL XPair.enc x.object.gate.clear, D.u x.object.gate.space.cont, D.u x.object.gate.space.id, D.u x.object.gate.pc, D.u x.object.gate.arg, encL D.u x.object.in', encL D.u x.object.out, D.i x.w.time, D.u x.w.key, D.u x.w.root, encL XObject.enc x.w.objects, D.u (x.a 0), D.u (x.a 1), D.u (x.a 2), D.u (x.a 3), D.u (x.a 4), D.u (x.a 5), D.u (x.a 6)]
@[go_sem] theorem XKobjCaller.len (x : XKobjCaller) : x.enc.cells.length = 62 := rfl
@[go_sem] theorem XKobjCaller.vlen (x : XKobjCaller) : (V.d x.enc).cells.length = 62 := rfl
@[go_sem] theorem XKobjCaller.zcells : (V.d XKobjCaller.zero.enc).cells = [.d (D.u XKobjCaller.zero.object.id), .d (D.i XKobjCaller.zero.object.kind), .d (encL XPair.enc XKobjCaller.zero.object.label), .d (D.i XKobjCaller.zero.object.quota), .d (D.b XKobjCaller.zero.object.fixed), .d (encL D.u XKobjCaller.zero.object.links), .d (encL D.u XKobjCaller.zero.object.data), .d (encL XPagesReach.enc XKobjCaller.zero.object.maps), .d (D.u (XKobjCaller.zero.object.thread.regs 0)), .d (D.u (XKobjCaller.zero.object.thread.regs 1)), .d (D.u (XKobjCaller.zero.object.thread.regs 2)), .d (D.u (XKobjCaller.zero.object.thread.regs 3)), .d (D.u (XKobjCaller.zero.object.thread.regs 4)), .d (D.u (XKobjCaller.zero.object.thread.regs 5)), .d (D.u (XKobjCaller.zero.object.thread.regs 6)), .d (D.u (XKobjCaller.zero.object.thread.regs 7)), .d (D.u (XKobjCaller.zero.object.thread.regs 8)), .d (D.u (XKobjCaller.zero.object.thread.regs 9)), .d (D.u (XKobjCaller.zero.object.thread.regs 10)), .d (D.u (XKobjCaller.zero.object.thread.regs 11)), .d (D.u (XKobjCaller.zero.object.thread.regs 12)), .d (D.u (XKobjCaller.zero.object.thread.regs 13)), .d (D.u (XKobjCaller.zero.object.thread.regs 14)), .d (D.u (XKobjCaller.zero.object.thread.regs 15)), .d (D.u XKobjCaller.zero.object.thread.pc), .d (encL XPair.enc XKobjCaller.zero.object.thread.clear), .d (D.u XKobjCaller.zero.object.thread.space.cont), .d (D.u XKobjCaller.zero.object.thread.space.id), .d (D.u XKobjCaller.zero.object.thread.handler), .d (D.u XKobjCaller.zero.object.thread.vector), .d (D.i XKobjCaller.zero.object.thread.state), .d (D.u XKobjCaller.zero.object.thread.wait.ref.cont), .d (D.u XKobjCaller.zero.object.thread.wait.ref.id), .d (D.u XKobjCaller.zero.object.thread.wait.index), .d (D.u XKobjCaller.zero.object.thread.wait.val), .d (D.b XKobjCaller.zero.object.thread.wait.dev), .d (encL D.u XKobjCaller.zero.object.thread.alerts), .d (D.u XKobjCaller.zero.object.thread.span.lo), .d (D.u XKobjCaller.zero.object.thread.span.hi), .d (encL XPair.enc (XKobjCaller.zero.object.thread.labs 0)), .d (encL XPair.enc (XKobjCaller.zero.object.thread.labs 1)), .d (encL XPair.enc (XKobjCaller.zero.object.thread.labs 2)), .d (encL XPair.enc (XKobjCaller.zero.object.thread.labs 3)), .d (encL XPair.enc XKobjCaller.zero.object.gate.grant), .d (encL XPair.enc XKobjCaller.zero.object.gate.clear), .d (D.u XKobjCaller.zero.object.gate.space.cont), .d (D.u XKobjCaller.zero.object.gate.space.id), .d (D.u XKobjCaller.zero.object.gate.pc), .d (D.u XKobjCaller.zero.object.gate.arg), .d (encL D.u XKobjCaller.zero.object.in'), .d (encL D.u XKobjCaller.zero.object.out), .d (D.i XKobjCaller.zero.w.time), .d (D.u XKobjCaller.zero.w.key), .d (D.u XKobjCaller.zero.w.root), .d (encL XObject.enc XKobjCaller.zero.w.objects), .d (D.u (XKobjCaller.zero.a 0)), .d (D.u (XKobjCaller.zero.a 1)), .d (D.u (XKobjCaller.zero.a 2)), .d (D.u (XKobjCaller.zero.a 3)), .d (D.u (XKobjCaller.zero.a 4)), .d (D.u (XKobjCaller.zero.a 5)), .d (D.u (XKobjCaller.zero.a 6))] := rfl
@[go_sem] theorem XKobjCaller.z_object : XKobjCaller.zero.object = XObject.zero := rfl
@[go_sem] theorem XKobjCaller.z_w : XKobjCaller.zero.w = XWorld.zero := rfl
@[go_sem] theorem XKobjCaller.z_a : XKobjCaller.zero.a = (fun _ => 0) := rfl
@[go_sem] theorem XKobjCaller.isStr (x : XKobjCaller) : (V.d x.enc).isStr = true := rfl
theorem XKobjCaller.agg (x : XKobjCaller) : x.enc = .agg [D.u x.object.id, D.i x.object.kind, encL XPair.enc x.object.label, D.i x.object.quota, D.b x.object.fixed, encL D.u x.object.links, encL D.u x.object.data, encL XPagesReach.enc x.object.maps, D.u (x.object.thread.regs 0), D.u (x.object.thread.regs 1), D.u (x.object.thread.regs 2), D.u (x.object.thread.regs 3), D.u (x.object.thread.regs 4), D.u (x.object.thread.regs 5), D.u (x.object.thread.regs 6), D.u (x.object.thread.regs 7), D.u (x.object.thread.regs 8), D.u (x.object.thread.regs 9), D.u (x.object.thread.regs 10), D.u (x.object.thread.regs 11), D.u (x.object.thread.regs 12), D.u (x.object.thread.regs 13), D.u (x.object.thread.regs 14), D.u (x.object.thread.regs 15), D.u x.object.thread.pc, encL XPair.enc x.object.thread.clear, D.u x.object.thread.space.cont, D.u x.object.thread.space.id, D.u x.object.thread.handler, D.u x.object.thread.vector, D.i x.object.thread.state, D.u x.object.thread.wait.ref.cont, D.u x.object.thread.wait.ref.id, D.u x.object.thread.wait.index, D.u x.object.thread.wait.val, D.b x.object.thread.wait.dev, encL D.u x.object.thread.alerts, D.u x.object.thread.span.lo, D.u x.object.thread.span.hi, encL XPair.enc (x.object.thread.labs 0), encL XPair.enc (x.object.thread.labs 1), encL XPair.enc (x.object.thread.labs 2), encL XPair.enc (x.object.thread.labs 3), encL XPair.enc x.object.gate.grant, encL XPair.enc x.object.gate.clear, D.u x.object.gate.space.cont, D.u x.object.gate.space.id, D.u x.object.gate.pc, D.u x.object.gate.arg, encL D.u x.object.in', encL D.u x.object.out, D.i x.w.time, D.u x.w.key, D.u x.w.root, encL XObject.enc x.w.objects, D.u (x.a 0), D.u (x.a 1), D.u (x.a 2), D.u (x.a 3), D.u (x.a 4), D.u (x.a 5), D.u (x.a 6)] := rfl
@[go_sem] theorem XKobjCaller.toD (x : XKobjCaller) : V.toD (V.d x.enc) = some x.enc := rfl
@[go_sem] theorem XKobjCaller.ld (x : XKobjCaller) : loadBox true 0 62 (.d x.enc) = .d x.enc := by unfold XKobjCaller.enc loadBox; rfl
@[go_sem] theorem XKobjCaller.tk (x : XKobjCaller) : takeD true 62 x.enc.cells = .d x.enc := by unfold XKobjCaller.enc takeD D.cells; rfl
@[go_sem] theorem XKobjCaller.st (x : XKobjCaller) (c : V) (h : c.cells.length = 62) : storeBox 0 (.d x.enc) c = .d x.enc := by unfold storeBox; rw [if_pos ⟨rfl, by rw [h]; rfl⟩]
@[go_sem] theorem XKobjCaller.ld_Object (x : XKobjCaller) : loadBox true 0 51 (.d x.enc) = .d (XObject.enc x.object) := by unfold XKobjCaller.enc loadBox; rfl
@[go_sem] theorem XKobjCaller.tk_Object (x : XKobjCaller) : takeD true 51 (x.enc.cells) = .d (XObject.enc x.object) := by unfold XKobjCaller.enc takeD D.cells; rfl
@[go_sem] theorem XKobjCaller.st_Object (x : XKobjCaller) (v : XObject) : storeBox 0 (.d (XObject.enc v)) (.d x.enc) = .d ({ x with object := v }).enc := by unfold storeBox; rfl
@[go_sem] theorem XKobjCaller.ld_Object_Id (x : XKobjCaller) : loadBox false 0 1 (.d x.enc) = .d (D.u x.object.id) := by unfold XKobjCaller.enc loadBox; rfl
@[go_sem] theorem XKobjCaller.tk_Object_Id (x : XKobjCaller) : takeD false 1 (x.enc.cells) = .d (D.u x.object.id) := by unfold XKobjCaller.enc takeD D.cells; rfl
@[go_sem] theorem XKobjCaller.st_Object_Id (x : XKobjCaller) (v : Int) : storeBox 0 (.d (D.u v)) (.d x.enc) = .d ({ x with object := { x.object with id := v } } : XKobjCaller).enc := by unfold storeBox; rfl
@[go_sem] theorem XKobjCaller.ld_Object_Kind (x : XKobjCaller) : loadBox false 1 1 (.d x.enc) = .d (D.i x.object.kind) := by unfold XKobjCaller.enc loadBox; rfl
@[go_sem] theorem XKobjCaller.tk_Object_Kind (x : XKobjCaller) : takeD false 1 (x.enc.cells.drop 1) = .d (D.i x.object.kind) := by unfold XKobjCaller.enc takeD D.cells; rfl
@[go_sem] theorem XKobjCaller.st_Object_Kind (x : XKobjCaller) (v : Int) : storeBox 1 (.d (D.i v)) (.d x.enc) = .d ({ x with object := { x.object with kind := v } } : XKobjCaller).enc := by unfold storeBox; rfl
@[go_sem] theorem XKobjCaller.ld_Object_Label (x : XKobjCaller) : loadBox false 2 1 (.d x.enc) = .d (encL XPair.enc x.object.label) := by unfold XKobjCaller.enc loadBox; rfl
@[go_sem] theorem XKobjCaller.tk_Object_Label (x : XKobjCaller) : takeD false 1 (x.enc.cells.drop 2) = .d (encL XPair.enc x.object.label) := by unfold XKobjCaller.enc takeD D.cells; rfl
@[go_sem] theorem XKobjCaller.st_Object_Label (x : XKobjCaller) (v : List XPair) : storeBox 2 (.d (encL XPair.enc v)) (.d x.enc) = .d ({ x with object := { x.object with label := v } } : XKobjCaller).enc := by unfold storeBox; rfl
@[go_sem] theorem XKobjCaller.ld_Object_Quota (x : XKobjCaller) : loadBox false 3 1 (.d x.enc) = .d (D.i x.object.quota) := by unfold XKobjCaller.enc loadBox; rfl
@[go_sem] theorem XKobjCaller.tk_Object_Quota (x : XKobjCaller) : takeD false 1 (x.enc.cells.drop 3) = .d (D.i x.object.quota) := by unfold XKobjCaller.enc takeD D.cells; rfl
@[go_sem] theorem XKobjCaller.st_Object_Quota (x : XKobjCaller) (v : Int) : storeBox 3 (.d (D.i v)) (.d x.enc) = .d ({ x with object := { x.object with quota := v } } : XKobjCaller).enc := by unfold storeBox; rfl
@[go_sem] theorem XKobjCaller.ld_Object_Fixed (x : XKobjCaller) : loadBox false 4 1 (.d x.enc) = .d (D.b x.object.fixed) := by unfold XKobjCaller.enc loadBox; rfl
@[go_sem] theorem XKobjCaller.tk_Object_Fixed (x : XKobjCaller) : takeD false 1 (x.enc.cells.drop 4) = .d (D.b x.object.fixed) := by unfold XKobjCaller.enc takeD D.cells; rfl
@[go_sem] theorem XKobjCaller.st_Object_Fixed (x : XKobjCaller) (v : Bool) : storeBox 4 (.d (D.b v)) (.d x.enc) = .d ({ x with object := { x.object with fixed := v } } : XKobjCaller).enc := by unfold storeBox; rfl
@[go_sem] theorem XKobjCaller.ld_Object_Links (x : XKobjCaller) : loadBox false 5 1 (.d x.enc) = .d (encL D.u x.object.links) := by unfold XKobjCaller.enc loadBox; rfl
@[go_sem] theorem XKobjCaller.tk_Object_Links (x : XKobjCaller) : takeD false 1 (x.enc.cells.drop 5) = .d (encL D.u x.object.links) := by unfold XKobjCaller.enc takeD D.cells; rfl
@[go_sem] theorem XKobjCaller.st_Object_Links (x : XKobjCaller) (v : List Int) : storeBox 5 (.d (encL D.u v)) (.d x.enc) = .d ({ x with object := { x.object with links := v } } : XKobjCaller).enc := by unfold storeBox; rfl
@[go_sem] theorem XKobjCaller.ld_Object_Data (x : XKobjCaller) : loadBox false 6 1 (.d x.enc) = .d (encL D.u x.object.data) := by unfold XKobjCaller.enc loadBox; rfl
@[go_sem] theorem XKobjCaller.tk_Object_Data (x : XKobjCaller) : takeD false 1 (x.enc.cells.drop 6) = .d (encL D.u x.object.data) := by unfold XKobjCaller.enc takeD D.cells; rfl
@[go_sem] theorem XKobjCaller.st_Object_Data (x : XKobjCaller) (v : List Int) : storeBox 6 (.d (encL D.u v)) (.d x.enc) = .d ({ x with object := { x.object with data := v } } : XKobjCaller).enc := by unfold storeBox; rfl
@[go_sem] theorem XKobjCaller.ld_Object_Maps (x : XKobjCaller) : loadBox false 7 1 (.d x.enc) = .d (encL XPagesReach.enc x.object.maps) := by unfold XKobjCaller.enc loadBox; rfl
@[go_sem] theorem XKobjCaller.tk_Object_Maps (x : XKobjCaller) : takeD false 1 (x.enc.cells.drop 7) = .d (encL XPagesReach.enc x.object.maps) := by unfold XKobjCaller.enc takeD D.cells; rfl
@[go_sem] theorem XKobjCaller.st_Object_Maps (x : XKobjCaller) (v : List XPagesReach) : storeBox 7 (.d (encL XPagesReach.enc v)) (.d x.enc) = .d ({ x with object := { x.object with maps := v } } : XKobjCaller).enc := by unfold storeBox; rfl
@[go_sem] theorem XKobjCaller.ld_Object_Thread (x : XKobjCaller) : loadBox true 8 35 (.d x.enc) = .d (XThread.enc x.object.thread) := by unfold XKobjCaller.enc loadBox; rfl
@[go_sem] theorem XKobjCaller.tk_Object_Thread (x : XKobjCaller) : takeD true 35 (x.enc.cells.drop 8) = .d (XThread.enc x.object.thread) := by unfold XKobjCaller.enc takeD D.cells; rfl
@[go_sem] theorem XKobjCaller.st_Object_Thread (x : XKobjCaller) (v : XThread) : storeBox 8 (.d (XThread.enc v)) (.d x.enc) = .d ({ x with object := { x.object with thread := v } }).enc := by unfold storeBox; rfl
@[go_sem] theorem XKobjCaller.ld_Object_Thread_Regs (x : XKobjCaller) : loadBox true 8 16 (.d x.enc) = .d (encA16_u64 x.object.thread.regs) := by unfold XKobjCaller.enc loadBox; rfl
@[go_sem] theorem XKobjCaller.tk_Object_Thread_Regs (x : XKobjCaller) : takeD true 16 (x.enc.cells.drop 8) = .d (encA16_u64 x.object.thread.regs) := by unfold XKobjCaller.enc takeD D.cells; rfl
@[go_sem] theorem XKobjCaller.ld_Object_Thread_Regs_0 (x : XKobjCaller) : loadBox false 8 1 (.d x.enc) = .d (D.u (x.object.thread.regs 0)) := by unfold XKobjCaller.enc loadBox; rfl
@[go_sem] theorem XKobjCaller.tk_Object_Thread_Regs_0 (x : XKobjCaller) : takeD false 1 (x.enc.cells.drop 8) = .d (D.u (x.object.thread.regs 0)) := by unfold XKobjCaller.enc takeD D.cells; rfl
@[go_sem] theorem XKobjCaller.ld_Object_Thread_Regs_1 (x : XKobjCaller) : loadBox false 9 1 (.d x.enc) = .d (D.u (x.object.thread.regs 1)) := by unfold XKobjCaller.enc loadBox; rfl
@[go_sem] theorem XKobjCaller.tk_Object_Thread_Regs_1 (x : XKobjCaller) : takeD false 1 (x.enc.cells.drop 9) = .d (D.u (x.object.thread.regs 1)) := by unfold XKobjCaller.enc takeD D.cells; rfl
@[go_sem] theorem XKobjCaller.ld_Object_Thread_Regs_2 (x : XKobjCaller) : loadBox false 10 1 (.d x.enc) = .d (D.u (x.object.thread.regs 2)) := by unfold XKobjCaller.enc loadBox; rfl
@[go_sem] theorem XKobjCaller.tk_Object_Thread_Regs_2 (x : XKobjCaller) : takeD false 1 (x.enc.cells.drop 10) = .d (D.u (x.object.thread.regs 2)) := by unfold XKobjCaller.enc takeD D.cells; rfl
@[go_sem] theorem XKobjCaller.ld_Object_Thread_Regs_3 (x : XKobjCaller) : loadBox false 11 1 (.d x.enc) = .d (D.u (x.object.thread.regs 3)) := by unfold XKobjCaller.enc loadBox; rfl
@[go_sem] theorem XKobjCaller.tk_Object_Thread_Regs_3 (x : XKobjCaller) : takeD false 1 (x.enc.cells.drop 11) = .d (D.u (x.object.thread.regs 3)) := by unfold XKobjCaller.enc takeD D.cells; rfl
@[go_sem] theorem XKobjCaller.ld_Object_Thread_Regs_4 (x : XKobjCaller) : loadBox false 12 1 (.d x.enc) = .d (D.u (x.object.thread.regs 4)) := by unfold XKobjCaller.enc loadBox; rfl
@[go_sem] theorem XKobjCaller.tk_Object_Thread_Regs_4 (x : XKobjCaller) : takeD false 1 (x.enc.cells.drop 12) = .d (D.u (x.object.thread.regs 4)) := by unfold XKobjCaller.enc takeD D.cells; rfl
@[go_sem] theorem XKobjCaller.ld_Object_Thread_Regs_5 (x : XKobjCaller) : loadBox false 13 1 (.d x.enc) = .d (D.u (x.object.thread.regs 5)) := by unfold XKobjCaller.enc loadBox; rfl
@[go_sem] theorem XKobjCaller.tk_Object_Thread_Regs_5 (x : XKobjCaller) : takeD false 1 (x.enc.cells.drop 13) = .d (D.u (x.object.thread.regs 5)) := by unfold XKobjCaller.enc takeD D.cells; rfl
@[go_sem] theorem XKobjCaller.ld_Object_Thread_Regs_6 (x : XKobjCaller) : loadBox false 14 1 (.d x.enc) = .d (D.u (x.object.thread.regs 6)) := by unfold XKobjCaller.enc loadBox; rfl
@[go_sem] theorem XKobjCaller.tk_Object_Thread_Regs_6 (x : XKobjCaller) : takeD false 1 (x.enc.cells.drop 14) = .d (D.u (x.object.thread.regs 6)) := by unfold XKobjCaller.enc takeD D.cells; rfl
@[go_sem] theorem XKobjCaller.ld_Object_Thread_Regs_7 (x : XKobjCaller) : loadBox false 15 1 (.d x.enc) = .d (D.u (x.object.thread.regs 7)) := by unfold XKobjCaller.enc loadBox; rfl
@[go_sem] theorem XKobjCaller.tk_Object_Thread_Regs_7 (x : XKobjCaller) : takeD false 1 (x.enc.cells.drop 15) = .d (D.u (x.object.thread.regs 7)) := by unfold XKobjCaller.enc takeD D.cells; rfl
@[go_sem] theorem XKobjCaller.ld_Object_Thread_Regs_8 (x : XKobjCaller) : loadBox false 16 1 (.d x.enc) = .d (D.u (x.object.thread.regs 8)) := by unfold XKobjCaller.enc loadBox; rfl
@[go_sem] theorem XKobjCaller.tk_Object_Thread_Regs_8 (x : XKobjCaller) : takeD false 1 (x.enc.cells.drop 16) = .d (D.u (x.object.thread.regs 8)) := by unfold XKobjCaller.enc takeD D.cells; rfl
@[go_sem] theorem XKobjCaller.ld_Object_Thread_Regs_9 (x : XKobjCaller) : loadBox false 17 1 (.d x.enc) = .d (D.u (x.object.thread.regs 9)) := by unfold XKobjCaller.enc loadBox; rfl
@[go_sem] theorem XKobjCaller.tk_Object_Thread_Regs_9 (x : XKobjCaller) : takeD false 1 (x.enc.cells.drop 17) = .d (D.u (x.object.thread.regs 9)) := by unfold XKobjCaller.enc takeD D.cells; rfl
@[go_sem] theorem XKobjCaller.ld_Object_Thread_Regs_10 (x : XKobjCaller) : loadBox false 18 1 (.d x.enc) = .d (D.u (x.object.thread.regs 10)) := by unfold XKobjCaller.enc loadBox; rfl
@[go_sem] theorem XKobjCaller.tk_Object_Thread_Regs_10 (x : XKobjCaller) : takeD false 1 (x.enc.cells.drop 18) = .d (D.u (x.object.thread.regs 10)) := by unfold XKobjCaller.enc takeD D.cells; rfl
@[go_sem] theorem XKobjCaller.ld_Object_Thread_Regs_11 (x : XKobjCaller) : loadBox false 19 1 (.d x.enc) = .d (D.u (x.object.thread.regs 11)) := by unfold XKobjCaller.enc loadBox; rfl
@[go_sem] theorem XKobjCaller.tk_Object_Thread_Regs_11 (x : XKobjCaller) : takeD false 1 (x.enc.cells.drop 19) = .d (D.u (x.object.thread.regs 11)) := by unfold XKobjCaller.enc takeD D.cells; rfl
@[go_sem] theorem XKobjCaller.ld_Object_Thread_Regs_12 (x : XKobjCaller) : loadBox false 20 1 (.d x.enc) = .d (D.u (x.object.thread.regs 12)) := by unfold XKobjCaller.enc loadBox; rfl
@[go_sem] theorem XKobjCaller.tk_Object_Thread_Regs_12 (x : XKobjCaller) : takeD false 1 (x.enc.cells.drop 20) = .d (D.u (x.object.thread.regs 12)) := by unfold XKobjCaller.enc takeD D.cells; rfl
@[go_sem] theorem XKobjCaller.ld_Object_Thread_Regs_13 (x : XKobjCaller) : loadBox false 21 1 (.d x.enc) = .d (D.u (x.object.thread.regs 13)) := by unfold XKobjCaller.enc loadBox; rfl
@[go_sem] theorem XKobjCaller.tk_Object_Thread_Regs_13 (x : XKobjCaller) : takeD false 1 (x.enc.cells.drop 21) = .d (D.u (x.object.thread.regs 13)) := by unfold XKobjCaller.enc takeD D.cells; rfl
@[go_sem] theorem XKobjCaller.ld_Object_Thread_Regs_14 (x : XKobjCaller) : loadBox false 22 1 (.d x.enc) = .d (D.u (x.object.thread.regs 14)) := by unfold XKobjCaller.enc loadBox; rfl
@[go_sem] theorem XKobjCaller.tk_Object_Thread_Regs_14 (x : XKobjCaller) : takeD false 1 (x.enc.cells.drop 22) = .d (D.u (x.object.thread.regs 14)) := by unfold XKobjCaller.enc takeD D.cells; rfl
@[go_sem] theorem XKobjCaller.ld_Object_Thread_Regs_15 (x : XKobjCaller) : loadBox false 23 1 (.d x.enc) = .d (D.u (x.object.thread.regs 15)) := by unfold XKobjCaller.enc loadBox; rfl
@[go_sem] theorem XKobjCaller.tk_Object_Thread_Regs_15 (x : XKobjCaller) : takeD false 1 (x.enc.cells.drop 23) = .d (D.u (x.object.thread.regs 15)) := by unfold XKobjCaller.enc takeD D.cells; rfl
@[go_sem] theorem XKobjCaller.ld_Object_Thread_Pc (x : XKobjCaller) : loadBox false 24 1 (.d x.enc) = .d (D.u x.object.thread.pc) := by unfold XKobjCaller.enc loadBox; rfl
@[go_sem] theorem XKobjCaller.tk_Object_Thread_Pc (x : XKobjCaller) : takeD false 1 (x.enc.cells.drop 24) = .d (D.u x.object.thread.pc) := by unfold XKobjCaller.enc takeD D.cells; rfl
@[go_sem] theorem XKobjCaller.st_Object_Thread_Pc (x : XKobjCaller) (v : Int) : storeBox 24 (.d (D.u v)) (.d x.enc) = .d ({ x with object := { x.object with thread := { x.object.thread with pc := v } } } : XKobjCaller).enc := by unfold storeBox; rfl
@[go_sem] theorem XKobjCaller.ld_Object_Thread_Clear (x : XKobjCaller) : loadBox false 25 1 (.d x.enc) = .d (encL XPair.enc x.object.thread.clear) := by unfold XKobjCaller.enc loadBox; rfl
@[go_sem] theorem XKobjCaller.tk_Object_Thread_Clear (x : XKobjCaller) : takeD false 1 (x.enc.cells.drop 25) = .d (encL XPair.enc x.object.thread.clear) := by unfold XKobjCaller.enc takeD D.cells; rfl
@[go_sem] theorem XKobjCaller.st_Object_Thread_Clear (x : XKobjCaller) (v : List XPair) : storeBox 25 (.d (encL XPair.enc v)) (.d x.enc) = .d ({ x with object := { x.object with thread := { x.object.thread with clear := v } } } : XKobjCaller).enc := by unfold storeBox; rfl
@[go_sem] theorem XKobjCaller.ld_Object_Thread_Space (x : XKobjCaller) : loadBox true 26 2 (.d x.enc) = .d (XRef.enc x.object.thread.space) := by unfold XKobjCaller.enc loadBox; rfl
@[go_sem] theorem XKobjCaller.tk_Object_Thread_Space (x : XKobjCaller) : takeD true 2 (x.enc.cells.drop 26) = .d (XRef.enc x.object.thread.space) := by unfold XKobjCaller.enc takeD D.cells; rfl
@[go_sem] theorem XKobjCaller.st_Object_Thread_Space (x : XKobjCaller) (v : XRef) : storeBox 26 (.d (XRef.enc v)) (.d x.enc) = .d ({ x with object := { x.object with thread := { x.object.thread with space := v } } }).enc := by unfold storeBox; rfl
@[go_sem] theorem XKobjCaller.ld_Object_Thread_Space_Cont (x : XKobjCaller) : loadBox false 26 1 (.d x.enc) = .d (D.u x.object.thread.space.cont) := by unfold XKobjCaller.enc loadBox; rfl
@[go_sem] theorem XKobjCaller.tk_Object_Thread_Space_Cont (x : XKobjCaller) : takeD false 1 (x.enc.cells.drop 26) = .d (D.u x.object.thread.space.cont) := by unfold XKobjCaller.enc takeD D.cells; rfl
@[go_sem] theorem XKobjCaller.st_Object_Thread_Space_Cont (x : XKobjCaller) (v : Int) : storeBox 26 (.d (D.u v)) (.d x.enc) = .d ({ x with object := { x.object with thread := { x.object.thread with space := { x.object.thread.space with cont := v } } } } : XKobjCaller).enc := by unfold storeBox; rfl
@[go_sem] theorem XKobjCaller.ld_Object_Thread_Space_Id (x : XKobjCaller) : loadBox false 27 1 (.d x.enc) = .d (D.u x.object.thread.space.id) := by unfold XKobjCaller.enc loadBox; rfl
@[go_sem] theorem XKobjCaller.tk_Object_Thread_Space_Id (x : XKobjCaller) : takeD false 1 (x.enc.cells.drop 27) = .d (D.u x.object.thread.space.id) := by unfold XKobjCaller.enc takeD D.cells; rfl
@[go_sem] theorem XKobjCaller.st_Object_Thread_Space_Id (x : XKobjCaller) (v : Int) : storeBox 27 (.d (D.u v)) (.d x.enc) = .d ({ x with object := { x.object with thread := { x.object.thread with space := { x.object.thread.space with id := v } } } } : XKobjCaller).enc := by unfold storeBox; rfl
@[go_sem] theorem XKobjCaller.ld_Object_Thread_Handler (x : XKobjCaller) : loadBox false 28 1 (.d x.enc) = .d (D.u x.object.thread.handler) := by unfold XKobjCaller.enc loadBox; rfl
@[go_sem] theorem XKobjCaller.tk_Object_Thread_Handler (x : XKobjCaller) : takeD false 1 (x.enc.cells.drop 28) = .d (D.u x.object.thread.handler) := by unfold XKobjCaller.enc takeD D.cells; rfl
@[go_sem] theorem XKobjCaller.st_Object_Thread_Handler (x : XKobjCaller) (v : Int) : storeBox 28 (.d (D.u v)) (.d x.enc) = .d ({ x with object := { x.object with thread := { x.object.thread with handler := v } } } : XKobjCaller).enc := by unfold storeBox; rfl
@[go_sem] theorem XKobjCaller.ld_Object_Thread_Vector (x : XKobjCaller) : loadBox false 29 1 (.d x.enc) = .d (D.u x.object.thread.vector) := by unfold XKobjCaller.enc loadBox; rfl
@[go_sem] theorem XKobjCaller.tk_Object_Thread_Vector (x : XKobjCaller) : takeD false 1 (x.enc.cells.drop 29) = .d (D.u x.object.thread.vector) := by unfold XKobjCaller.enc takeD D.cells; rfl
@[go_sem] theorem XKobjCaller.st_Object_Thread_Vector (x : XKobjCaller) (v : Int) : storeBox 29 (.d (D.u v)) (.d x.enc) = .d ({ x with object := { x.object with thread := { x.object.thread with vector := v } } } : XKobjCaller).enc := by unfold storeBox; rfl
@[go_sem] theorem XKobjCaller.ld_Object_Thread_State (x : XKobjCaller) : loadBox false 30 1 (.d x.enc) = .d (D.i x.object.thread.state) := by unfold XKobjCaller.enc loadBox; rfl
@[go_sem] theorem XKobjCaller.tk_Object_Thread_State (x : XKobjCaller) : takeD false 1 (x.enc.cells.drop 30) = .d (D.i x.object.thread.state) := by unfold XKobjCaller.enc takeD D.cells; rfl
@[go_sem] theorem XKobjCaller.st_Object_Thread_State (x : XKobjCaller) (v : Int) : storeBox 30 (.d (D.i v)) (.d x.enc) = .d ({ x with object := { x.object with thread := { x.object.thread with state := v } } } : XKobjCaller).enc := by unfold storeBox; rfl
@[go_sem] theorem XKobjCaller.ld_Object_Thread_Wait (x : XKobjCaller) : loadBox true 31 5 (.d x.enc) = .d (XWait.enc x.object.thread.wait) := by unfold XKobjCaller.enc loadBox; rfl
@[go_sem] theorem XKobjCaller.tk_Object_Thread_Wait (x : XKobjCaller) : takeD true 5 (x.enc.cells.drop 31) = .d (XWait.enc x.object.thread.wait) := by unfold XKobjCaller.enc takeD D.cells; rfl
@[go_sem] theorem XKobjCaller.st_Object_Thread_Wait (x : XKobjCaller) (v : XWait) : storeBox 31 (.d (XWait.enc v)) (.d x.enc) = .d ({ x with object := { x.object with thread := { x.object.thread with wait := v } } }).enc := by unfold storeBox; rfl
@[go_sem] theorem XKobjCaller.ld_Object_Thread_Wait_Ref (x : XKobjCaller) : loadBox true 31 2 (.d x.enc) = .d (XRef.enc x.object.thread.wait.ref) := by unfold XKobjCaller.enc loadBox; rfl
@[go_sem] theorem XKobjCaller.tk_Object_Thread_Wait_Ref (x : XKobjCaller) : takeD true 2 (x.enc.cells.drop 31) = .d (XRef.enc x.object.thread.wait.ref) := by unfold XKobjCaller.enc takeD D.cells; rfl
@[go_sem] theorem XKobjCaller.st_Object_Thread_Wait_Ref (x : XKobjCaller) (v : XRef) : storeBox 31 (.d (XRef.enc v)) (.d x.enc) = .d ({ x with object := { x.object with thread := { x.object.thread with wait := { x.object.thread.wait with ref := v } } } }).enc := by unfold storeBox; rfl
@[go_sem] theorem XKobjCaller.ld_Object_Thread_Wait_Ref_Cont (x : XKobjCaller) : loadBox false 31 1 (.d x.enc) = .d (D.u x.object.thread.wait.ref.cont) := by unfold XKobjCaller.enc loadBox; rfl
@[go_sem] theorem XKobjCaller.tk_Object_Thread_Wait_Ref_Cont (x : XKobjCaller) : takeD false 1 (x.enc.cells.drop 31) = .d (D.u x.object.thread.wait.ref.cont) := by unfold XKobjCaller.enc takeD D.cells; rfl
@[go_sem] theorem XKobjCaller.st_Object_Thread_Wait_Ref_Cont (x : XKobjCaller) (v : Int) : storeBox 31 (.d (D.u v)) (.d x.enc) = .d ({ x with object := { x.object with thread := { x.object.thread with wait := { x.object.thread.wait with ref := { x.object.thread.wait.ref with cont := v } } } } } : XKobjCaller).enc := by unfold storeBox; rfl
@[go_sem] theorem XKobjCaller.ld_Object_Thread_Wait_Ref_Id (x : XKobjCaller) : loadBox false 32 1 (.d x.enc) = .d (D.u x.object.thread.wait.ref.id) := by unfold XKobjCaller.enc loadBox; rfl
@[go_sem] theorem XKobjCaller.tk_Object_Thread_Wait_Ref_Id (x : XKobjCaller) : takeD false 1 (x.enc.cells.drop 32) = .d (D.u x.object.thread.wait.ref.id) := by unfold XKobjCaller.enc takeD D.cells; rfl
@[go_sem] theorem XKobjCaller.st_Object_Thread_Wait_Ref_Id (x : XKobjCaller) (v : Int) : storeBox 32 (.d (D.u v)) (.d x.enc) = .d ({ x with object := { x.object with thread := { x.object.thread with wait := { x.object.thread.wait with ref := { x.object.thread.wait.ref with id := v } } } } } : XKobjCaller).enc := by unfold storeBox; rfl
@[go_sem] theorem XKobjCaller.ld_Object_Thread_Wait_Index (x : XKobjCaller) : loadBox false 33 1 (.d x.enc) = .d (D.u x.object.thread.wait.index) := by unfold XKobjCaller.enc loadBox; rfl
@[go_sem] theorem XKobjCaller.tk_Object_Thread_Wait_Index (x : XKobjCaller) : takeD false 1 (x.enc.cells.drop 33) = .d (D.u x.object.thread.wait.index) := by unfold XKobjCaller.enc takeD D.cells; rfl
@[go_sem] theorem XKobjCaller.st_Object_Thread_Wait_Index (x : XKobjCaller) (v : Int) : storeBox 33 (.d (D.u v)) (.d x.enc) = .d ({ x with object := { x.object with thread := { x.object.thread with wait := { x.object.thread.wait with index := v } } } } : XKobjCaller).enc := by unfold storeBox; rfl
@[go_sem] theorem XKobjCaller.ld_Object_Thread_Wait_Val (x : XKobjCaller) : loadBox false 34 1 (.d x.enc) = .d (D.u x.object.thread.wait.val) := by unfold XKobjCaller.enc loadBox; rfl
@[go_sem] theorem XKobjCaller.tk_Object_Thread_Wait_Val (x : XKobjCaller) : takeD false 1 (x.enc.cells.drop 34) = .d (D.u x.object.thread.wait.val) := by unfold XKobjCaller.enc takeD D.cells; rfl
@[go_sem] theorem XKobjCaller.st_Object_Thread_Wait_Val (x : XKobjCaller) (v : Int) : storeBox 34 (.d (D.u v)) (.d x.enc) = .d ({ x with object := { x.object with thread := { x.object.thread with wait := { x.object.thread.wait with val := v } } } } : XKobjCaller).enc := by unfold storeBox; rfl
@[go_sem] theorem XKobjCaller.ld_Object_Thread_Wait_Dev (x : XKobjCaller) : loadBox false 35 1 (.d x.enc) = .d (D.b x.object.thread.wait.dev) := by unfold XKobjCaller.enc loadBox; rfl
@[go_sem] theorem XKobjCaller.tk_Object_Thread_Wait_Dev (x : XKobjCaller) : takeD false 1 (x.enc.cells.drop 35) = .d (D.b x.object.thread.wait.dev) := by unfold XKobjCaller.enc takeD D.cells; rfl
@[go_sem] theorem XKobjCaller.st_Object_Thread_Wait_Dev (x : XKobjCaller) (v : Bool) : storeBox 35 (.d (D.b v)) (.d x.enc) = .d ({ x with object := { x.object with thread := { x.object.thread with wait := { x.object.thread.wait with dev := v } } } } : XKobjCaller).enc := by unfold storeBox; rfl
@[go_sem] theorem XKobjCaller.ld_Object_Thread_Alerts (x : XKobjCaller) : loadBox false 36 1 (.d x.enc) = .d (encL D.u x.object.thread.alerts) := by unfold XKobjCaller.enc loadBox; rfl
@[go_sem] theorem XKobjCaller.tk_Object_Thread_Alerts (x : XKobjCaller) : takeD false 1 (x.enc.cells.drop 36) = .d (encL D.u x.object.thread.alerts) := by unfold XKobjCaller.enc takeD D.cells; rfl
@[go_sem] theorem XKobjCaller.st_Object_Thread_Alerts (x : XKobjCaller) (v : List Int) : storeBox 36 (.d (encL D.u v)) (.d x.enc) = .d ({ x with object := { x.object with thread := { x.object.thread with alerts := v } } } : XKobjCaller).enc := by unfold storeBox; rfl
@[go_sem] theorem XKobjCaller.ld_Object_Thread_Span (x : XKobjCaller) : loadBox true 37 2 (.d x.enc) = .d (XSpan.enc x.object.thread.span) := by unfold XKobjCaller.enc loadBox; rfl
@[go_sem] theorem XKobjCaller.tk_Object_Thread_Span (x : XKobjCaller) : takeD true 2 (x.enc.cells.drop 37) = .d (XSpan.enc x.object.thread.span) := by unfold XKobjCaller.enc takeD D.cells; rfl
@[go_sem] theorem XKobjCaller.st_Object_Thread_Span (x : XKobjCaller) (v : XSpan) : storeBox 37 (.d (XSpan.enc v)) (.d x.enc) = .d ({ x with object := { x.object with thread := { x.object.thread with span := v } } }).enc := by unfold storeBox; rfl
@[go_sem] theorem XKobjCaller.ld_Object_Thread_Span_Lo (x : XKobjCaller) : loadBox false 37 1 (.d x.enc) = .d (D.u x.object.thread.span.lo) := by unfold XKobjCaller.enc loadBox; rfl
@[go_sem] theorem XKobjCaller.tk_Object_Thread_Span_Lo (x : XKobjCaller) : takeD false 1 (x.enc.cells.drop 37) = .d (D.u x.object.thread.span.lo) := by unfold XKobjCaller.enc takeD D.cells; rfl
@[go_sem] theorem XKobjCaller.st_Object_Thread_Span_Lo (x : XKobjCaller) (v : Int) : storeBox 37 (.d (D.u v)) (.d x.enc) = .d ({ x with object := { x.object with thread := { x.object.thread with span := { x.object.thread.span with lo := v } } } } : XKobjCaller).enc := by unfold storeBox; rfl
@[go_sem] theorem XKobjCaller.ld_Object_Thread_Span_Hi (x : XKobjCaller) : loadBox false 38 1 (.d x.enc) = .d (D.u x.object.thread.span.hi) := by unfold XKobjCaller.enc loadBox; rfl
@[go_sem] theorem XKobjCaller.tk_Object_Thread_Span_Hi (x : XKobjCaller) : takeD false 1 (x.enc.cells.drop 38) = .d (D.u x.object.thread.span.hi) := by unfold XKobjCaller.enc takeD D.cells; rfl
@[go_sem] theorem XKobjCaller.st_Object_Thread_Span_Hi (x : XKobjCaller) (v : Int) : storeBox 38 (.d (D.u v)) (.d x.enc) = .d ({ x with object := { x.object with thread := { x.object.thread with span := { x.object.thread.span with hi := v } } } } : XKobjCaller).enc := by unfold storeBox; rfl
@[go_sem] theorem XKobjCaller.ld_Object_Thread_Labs (x : XKobjCaller) : loadBox true 39 4 (.d x.enc) = .d (encA4_LXPair x.object.thread.labs) := by unfold XKobjCaller.enc loadBox; rfl
@[go_sem] theorem XKobjCaller.tk_Object_Thread_Labs (x : XKobjCaller) : takeD true 4 (x.enc.cells.drop 39) = .d (encA4_LXPair x.object.thread.labs) := by unfold XKobjCaller.enc takeD D.cells; rfl
@[go_sem] theorem XKobjCaller.ld_Object_Thread_Labs_0 (x : XKobjCaller) : loadBox false 39 1 (.d x.enc) = .d (encL XPair.enc (x.object.thread.labs 0)) := by unfold XKobjCaller.enc loadBox; rfl
@[go_sem] theorem XKobjCaller.tk_Object_Thread_Labs_0 (x : XKobjCaller) : takeD false 1 (x.enc.cells.drop 39) = .d (encL XPair.enc (x.object.thread.labs 0)) := by unfold XKobjCaller.enc takeD D.cells; rfl
@[go_sem] theorem XKobjCaller.ld_Object_Thread_Labs_1 (x : XKobjCaller) : loadBox false 40 1 (.d x.enc) = .d (encL XPair.enc (x.object.thread.labs 1)) := by unfold XKobjCaller.enc loadBox; rfl
@[go_sem] theorem XKobjCaller.tk_Object_Thread_Labs_1 (x : XKobjCaller) : takeD false 1 (x.enc.cells.drop 40) = .d (encL XPair.enc (x.object.thread.labs 1)) := by unfold XKobjCaller.enc takeD D.cells; rfl
@[go_sem] theorem XKobjCaller.ld_Object_Thread_Labs_2 (x : XKobjCaller) : loadBox false 41 1 (.d x.enc) = .d (encL XPair.enc (x.object.thread.labs 2)) := by unfold XKobjCaller.enc loadBox; rfl
@[go_sem] theorem XKobjCaller.tk_Object_Thread_Labs_2 (x : XKobjCaller) : takeD false 1 (x.enc.cells.drop 41) = .d (encL XPair.enc (x.object.thread.labs 2)) := by unfold XKobjCaller.enc takeD D.cells; rfl
@[go_sem] theorem XKobjCaller.ld_Object_Thread_Labs_3 (x : XKobjCaller) : loadBox false 42 1 (.d x.enc) = .d (encL XPair.enc (x.object.thread.labs 3)) := by unfold XKobjCaller.enc loadBox; rfl
@[go_sem] theorem XKobjCaller.tk_Object_Thread_Labs_3 (x : XKobjCaller) : takeD false 1 (x.enc.cells.drop 42) = .d (encL XPair.enc (x.object.thread.labs 3)) := by unfold XKobjCaller.enc takeD D.cells; rfl
@[go_sem] theorem XKobjCaller.ld_Object_Gate (x : XKobjCaller) : loadBox true 43 6 (.d x.enc) = .d (XGate.enc x.object.gate) := by unfold XKobjCaller.enc loadBox; rfl
@[go_sem] theorem XKobjCaller.tk_Object_Gate (x : XKobjCaller) : takeD true 6 (x.enc.cells.drop 43) = .d (XGate.enc x.object.gate) := by unfold XKobjCaller.enc takeD D.cells; rfl
@[go_sem] theorem XKobjCaller.st_Object_Gate (x : XKobjCaller) (v : XGate) : storeBox 43 (.d (XGate.enc v)) (.d x.enc) = .d ({ x with object := { x.object with gate := v } }).enc := by unfold storeBox; rfl
@[go_sem] theorem XKobjCaller.ld_Object_Gate_Grant (x : XKobjCaller) : loadBox false 43 1 (.d x.enc) = .d (encL XPair.enc x.object.gate.grant) := by unfold XKobjCaller.enc loadBox; rfl
@[go_sem] theorem XKobjCaller.tk_Object_Gate_Grant (x : XKobjCaller) : takeD false 1 (x.enc.cells.drop 43) = .d (encL XPair.enc x.object.gate.grant) := by unfold XKobjCaller.enc takeD D.cells; rfl
@[go_sem] theorem XKobjCaller.st_Object_Gate_Grant (x : XKobjCaller) (v : List XPair) : storeBox 43 (.d (encL XPair.enc v)) (.d x.enc) = .d ({ x with object := { x.object with gate := { x.object.gate with grant := v } } } : XKobjCaller).enc := by unfold storeBox; rfl
@[go_sem] theorem XKobjCaller.ld_Object_Gate_Clear (x : XKobjCaller) : loadBox false 44 1 (.d x.enc) = .d (encL XPair.enc x.object.gate.clear) := by unfold XKobjCaller.enc loadBox; rfl
@[go_sem] theorem XKobjCaller.tk_Object_Gate_Clear (x : XKobjCaller) : takeD false 1 (x.enc.cells.drop 44) = .d (encL XPair.enc x.object.gate.clear) := by unfold XKobjCaller.enc takeD D.cells; rfl
@[go_sem] theorem XKobjCaller.st_Object_Gate_Clear (x : XKobjCaller) (v : List XPair) : storeBox 44 (.d (encL XPair.enc v)) (.d x.enc) = .d ({ x with object := { x.object with gate := { x.object.gate with clear := v } } } : XKobjCaller).enc := by unfold storeBox; rfl
@[go_sem] theorem XKobjCaller.ld_Object_Gate_Space (x : XKobjCaller) : loadBox true 45 2 (.d x.enc) = .d (XRef.enc x.object.gate.space) := by unfold XKobjCaller.enc loadBox; rfl
@[go_sem] theorem XKobjCaller.tk_Object_Gate_Space (x : XKobjCaller) : takeD true 2 (x.enc.cells.drop 45) = .d (XRef.enc x.object.gate.space) := by unfold XKobjCaller.enc takeD D.cells; rfl
@[go_sem] theorem XKobjCaller.st_Object_Gate_Space (x : XKobjCaller) (v : XRef) : storeBox 45 (.d (XRef.enc v)) (.d x.enc) = .d ({ x with object := { x.object with gate := { x.object.gate with space := v } } }).enc := by unfold storeBox; rfl
@[go_sem] theorem XKobjCaller.ld_Object_Gate_Space_Cont (x : XKobjCaller) : loadBox false 45 1 (.d x.enc) = .d (D.u x.object.gate.space.cont) := by unfold XKobjCaller.enc loadBox; rfl
@[go_sem] theorem XKobjCaller.tk_Object_Gate_Space_Cont (x : XKobjCaller) : takeD false 1 (x.enc.cells.drop 45) = .d (D.u x.object.gate.space.cont) := by unfold XKobjCaller.enc takeD D.cells; rfl
@[go_sem] theorem XKobjCaller.st_Object_Gate_Space_Cont (x : XKobjCaller) (v : Int) : storeBox 45 (.d (D.u v)) (.d x.enc) = .d ({ x with object := { x.object with gate := { x.object.gate with space := { x.object.gate.space with cont := v } } } } : XKobjCaller).enc := by unfold storeBox; rfl
@[go_sem] theorem XKobjCaller.ld_Object_Gate_Space_Id (x : XKobjCaller) : loadBox false 46 1 (.d x.enc) = .d (D.u x.object.gate.space.id) := by unfold XKobjCaller.enc loadBox; rfl
@[go_sem] theorem XKobjCaller.tk_Object_Gate_Space_Id (x : XKobjCaller) : takeD false 1 (x.enc.cells.drop 46) = .d (D.u x.object.gate.space.id) := by unfold XKobjCaller.enc takeD D.cells; rfl
@[go_sem] theorem XKobjCaller.st_Object_Gate_Space_Id (x : XKobjCaller) (v : Int) : storeBox 46 (.d (D.u v)) (.d x.enc) = .d ({ x with object := { x.object with gate := { x.object.gate with space := { x.object.gate.space with id := v } } } } : XKobjCaller).enc := by unfold storeBox; rfl
@[go_sem] theorem XKobjCaller.ld_Object_Gate_Pc (x : XKobjCaller) : loadBox false 47 1 (.d x.enc) = .d (D.u x.object.gate.pc) := by unfold XKobjCaller.enc loadBox; rfl
@[go_sem] theorem XKobjCaller.tk_Object_Gate_Pc (x : XKobjCaller) : takeD false 1 (x.enc.cells.drop 47) = .d (D.u x.object.gate.pc) := by unfold XKobjCaller.enc takeD D.cells; rfl
@[go_sem] theorem XKobjCaller.st_Object_Gate_Pc (x : XKobjCaller) (v : Int) : storeBox 47 (.d (D.u v)) (.d x.enc) = .d ({ x with object := { x.object with gate := { x.object.gate with pc := v } } } : XKobjCaller).enc := by unfold storeBox; rfl
@[go_sem] theorem XKobjCaller.ld_Object_Gate_Arg (x : XKobjCaller) : loadBox false 48 1 (.d x.enc) = .d (D.u x.object.gate.arg) := by unfold XKobjCaller.enc loadBox; rfl
@[go_sem] theorem XKobjCaller.tk_Object_Gate_Arg (x : XKobjCaller) : takeD false 1 (x.enc.cells.drop 48) = .d (D.u x.object.gate.arg) := by unfold XKobjCaller.enc takeD D.cells; rfl
@[go_sem] theorem XKobjCaller.st_Object_Gate_Arg (x : XKobjCaller) (v : Int) : storeBox 48 (.d (D.u v)) (.d x.enc) = .d ({ x with object := { x.object with gate := { x.object.gate with arg := v } } } : XKobjCaller).enc := by unfold storeBox; rfl
@[go_sem] theorem XKobjCaller.ld_Object_In (x : XKobjCaller) : loadBox false 49 1 (.d x.enc) = .d (encL D.u x.object.in') := by unfold XKobjCaller.enc loadBox; rfl
@[go_sem] theorem XKobjCaller.tk_Object_In (x : XKobjCaller) : takeD false 1 (x.enc.cells.drop 49) = .d (encL D.u x.object.in') := by unfold XKobjCaller.enc takeD D.cells; rfl
@[go_sem] theorem XKobjCaller.st_Object_In (x : XKobjCaller) (v : List Int) : storeBox 49 (.d (encL D.u v)) (.d x.enc) = .d ({ x with object := { x.object with in' := v } } : XKobjCaller).enc := by unfold storeBox; rfl
@[go_sem] theorem XKobjCaller.ld_Object_Out (x : XKobjCaller) : loadBox false 50 1 (.d x.enc) = .d (encL D.u x.object.out) := by unfold XKobjCaller.enc loadBox; rfl
@[go_sem] theorem XKobjCaller.tk_Object_Out (x : XKobjCaller) : takeD false 1 (x.enc.cells.drop 50) = .d (encL D.u x.object.out) := by unfold XKobjCaller.enc takeD D.cells; rfl
@[go_sem] theorem XKobjCaller.st_Object_Out (x : XKobjCaller) (v : List Int) : storeBox 50 (.d (encL D.u v)) (.d x.enc) = .d ({ x with object := { x.object with out := v } } : XKobjCaller).enc := by unfold storeBox; rfl
@[go_sem] theorem XKobjCaller.ld_w (x : XKobjCaller) : loadBox true 51 4 (.d x.enc) = .d (XWorld.enc x.w) := by unfold XKobjCaller.enc loadBox; rfl
@[go_sem] theorem XKobjCaller.tk_w (x : XKobjCaller) : takeD true 4 (x.enc.cells.drop 51) = .d (XWorld.enc x.w) := by unfold XKobjCaller.enc takeD D.cells; rfl
@[go_sem] theorem XKobjCaller.st_w (x : XKobjCaller) (v : XWorld) : storeBox 51 (.d (XWorld.enc v)) (.d x.enc) = .d ({ x with w := v }).enc := by unfold storeBox; rfl
@[go_sem] theorem XKobjCaller.ld_w_Time (x : XKobjCaller) : loadBox false 51 1 (.d x.enc) = .d (D.i x.w.time) := by unfold XKobjCaller.enc loadBox; rfl
@[go_sem] theorem XKobjCaller.tk_w_Time (x : XKobjCaller) : takeD false 1 (x.enc.cells.drop 51) = .d (D.i x.w.time) := by unfold XKobjCaller.enc takeD D.cells; rfl
@[go_sem] theorem XKobjCaller.st_w_Time (x : XKobjCaller) (v : Int) : storeBox 51 (.d (D.i v)) (.d x.enc) = .d ({ x with w := { x.w with time := v } } : XKobjCaller).enc := by unfold storeBox; rfl
@[go_sem] theorem XKobjCaller.ld_w_Key (x : XKobjCaller) : loadBox false 52 1 (.d x.enc) = .d (D.u x.w.key) := by unfold XKobjCaller.enc loadBox; rfl
@[go_sem] theorem XKobjCaller.tk_w_Key (x : XKobjCaller) : takeD false 1 (x.enc.cells.drop 52) = .d (D.u x.w.key) := by unfold XKobjCaller.enc takeD D.cells; rfl
@[go_sem] theorem XKobjCaller.st_w_Key (x : XKobjCaller) (v : Int) : storeBox 52 (.d (D.u v)) (.d x.enc) = .d ({ x with w := { x.w with key := v } } : XKobjCaller).enc := by unfold storeBox; rfl
@[go_sem] theorem XKobjCaller.ld_w_Root (x : XKobjCaller) : loadBox false 53 1 (.d x.enc) = .d (D.u x.w.root) := by unfold XKobjCaller.enc loadBox; rfl
@[go_sem] theorem XKobjCaller.tk_w_Root (x : XKobjCaller) : takeD false 1 (x.enc.cells.drop 53) = .d (D.u x.w.root) := by unfold XKobjCaller.enc takeD D.cells; rfl
@[go_sem] theorem XKobjCaller.st_w_Root (x : XKobjCaller) (v : Int) : storeBox 53 (.d (D.u v)) (.d x.enc) = .d ({ x with w := { x.w with root := v } } : XKobjCaller).enc := by unfold storeBox; rfl
@[go_sem] theorem XKobjCaller.ld_w_Objects (x : XKobjCaller) : loadBox false 54 1 (.d x.enc) = .d (encL XObject.enc x.w.objects) := by unfold XKobjCaller.enc loadBox; rfl
@[go_sem] theorem XKobjCaller.tk_w_Objects (x : XKobjCaller) : takeD false 1 (x.enc.cells.drop 54) = .d (encL XObject.enc x.w.objects) := by unfold XKobjCaller.enc takeD D.cells; rfl
@[go_sem] theorem XKobjCaller.st_w_Objects (x : XKobjCaller) (v : List XObject) : storeBox 54 (.d (encL XObject.enc v)) (.d x.enc) = .d ({ x with w := { x.w with objects := v } } : XKobjCaller).enc := by unfold storeBox; rfl
@[go_sem] theorem XKobjCaller.ld_a (x : XKobjCaller) : loadBox true 55 7 (.d x.enc) = .d (encA7_u64 x.a) := by unfold XKobjCaller.enc loadBox; rfl
@[go_sem] theorem XKobjCaller.tk_a (x : XKobjCaller) : takeD true 7 (x.enc.cells.drop 55) = .d (encA7_u64 x.a) := by unfold XKobjCaller.enc takeD D.cells; rfl
@[go_sem] theorem XKobjCaller.ld_a_0 (x : XKobjCaller) : loadBox false 55 1 (.d x.enc) = .d (D.u (x.a 0)) := by unfold XKobjCaller.enc loadBox; rfl
@[go_sem] theorem XKobjCaller.tk_a_0 (x : XKobjCaller) : takeD false 1 (x.enc.cells.drop 55) = .d (D.u (x.a 0)) := by unfold XKobjCaller.enc takeD D.cells; rfl
@[go_sem] theorem XKobjCaller.ld_a_1 (x : XKobjCaller) : loadBox false 56 1 (.d x.enc) = .d (D.u (x.a 1)) := by unfold XKobjCaller.enc loadBox; rfl
@[go_sem] theorem XKobjCaller.tk_a_1 (x : XKobjCaller) : takeD false 1 (x.enc.cells.drop 56) = .d (D.u (x.a 1)) := by unfold XKobjCaller.enc takeD D.cells; rfl
@[go_sem] theorem XKobjCaller.ld_a_2 (x : XKobjCaller) : loadBox false 57 1 (.d x.enc) = .d (D.u (x.a 2)) := by unfold XKobjCaller.enc loadBox; rfl
@[go_sem] theorem XKobjCaller.tk_a_2 (x : XKobjCaller) : takeD false 1 (x.enc.cells.drop 57) = .d (D.u (x.a 2)) := by unfold XKobjCaller.enc takeD D.cells; rfl
@[go_sem] theorem XKobjCaller.ld_a_3 (x : XKobjCaller) : loadBox false 58 1 (.d x.enc) = .d (D.u (x.a 3)) := by unfold XKobjCaller.enc loadBox; rfl
@[go_sem] theorem XKobjCaller.tk_a_3 (x : XKobjCaller) : takeD false 1 (x.enc.cells.drop 58) = .d (D.u (x.a 3)) := by unfold XKobjCaller.enc takeD D.cells; rfl
@[go_sem] theorem XKobjCaller.ld_a_4 (x : XKobjCaller) : loadBox false 59 1 (.d x.enc) = .d (D.u (x.a 4)) := by unfold XKobjCaller.enc loadBox; rfl
@[go_sem] theorem XKobjCaller.tk_a_4 (x : XKobjCaller) : takeD false 1 (x.enc.cells.drop 59) = .d (D.u (x.a 4)) := by unfold XKobjCaller.enc takeD D.cells; rfl
@[go_sem] theorem XKobjCaller.ld_a_5 (x : XKobjCaller) : loadBox false 60 1 (.d x.enc) = .d (D.u (x.a 5)) := by unfold XKobjCaller.enc loadBox; rfl
@[go_sem] theorem XKobjCaller.tk_a_5 (x : XKobjCaller) : takeD false 1 (x.enc.cells.drop 60) = .d (D.u (x.a 5)) := by unfold XKobjCaller.enc takeD D.cells; rfl
@[go_sem] theorem XKobjCaller.ld_a_6 (x : XKobjCaller) : loadBox false 61 1 (.d x.enc) = .d (D.u (x.a 6)) := by unfold XKobjCaller.enc loadBox; rfl
@[go_sem] theorem XKobjCaller.tk_a_6 (x : XKobjCaller) : takeD false 1 (x.enc.cells.drop 61) = .d (D.u (x.a 6)) := by unfold XKobjCaller.enc takeD D.cells; rfl
structure XKobjThrown where
  why : Int
def XKobjThrown.zero : XKobjThrown := ⟨0⟩
def XKobjThrown.enc (x : XKobjThrown) : D := .agg [D.i x.why]
@[go_sem] theorem XKobjThrown.len (x : XKobjThrown) : x.enc.cells.length = 1 := rfl
@[go_sem] theorem XKobjThrown.vlen (x : XKobjThrown) : (V.d x.enc).cells.length = 1 := rfl
@[go_sem] theorem XKobjThrown.zcells : (V.d XKobjThrown.zero.enc).cells = [.d (D.i XKobjThrown.zero.why)] := rfl
@[go_sem] theorem XKobjThrown.z_why : XKobjThrown.zero.why = 0 := rfl
@[go_sem] theorem XKobjThrown.isStr (x : XKobjThrown) : (V.d x.enc).isStr = true := rfl
theorem XKobjThrown.agg (x : XKobjThrown) : x.enc = .agg [D.i x.why] := rfl
@[go_sem] theorem XKobjThrown.toD (x : XKobjThrown) : V.toD (V.d x.enc) = some x.enc := rfl
@[go_sem] theorem XKobjThrown.ld (x : XKobjThrown) : loadBox true 0 1 (.d x.enc) = .d x.enc := by unfold XKobjThrown.enc loadBox; rfl
@[go_sem] theorem XKobjThrown.tk (x : XKobjThrown) : takeD true 1 x.enc.cells = .d x.enc := by unfold XKobjThrown.enc takeD D.cells; rfl
@[go_sem] theorem XKobjThrown.st (x : XKobjThrown) (c : V) (h : c.cells.length = 1) : storeBox 0 (.d x.enc) c = .d x.enc := by unfold storeBox; rw [if_pos ⟨rfl, by rw [h]; rfl⟩]
@[go_sem] theorem XKobjThrown.ld_why (x : XKobjThrown) : loadBox false 0 1 (.d x.enc) = .d (D.i x.why) := by unfold XKobjThrown.enc loadBox; rfl
@[go_sem] theorem XKobjThrown.tk_why (x : XKobjThrown) : takeD false 1 (x.enc.cells) = .d (D.i x.why) := by unfold XKobjThrown.enc takeD D.cells; rfl
structure XRealOwned where
  frame : XFrame
  words : Fin 16 → Int
def XRealOwned.zero : XRealOwned := ⟨XFrame.zero, (fun _ => 0)⟩
def XRealOwned.enc (x : XRealOwned) : D := .agg [D.u x.frame.owner, D.i x.frame.page, D.u (x.words 0), D.u (x.words 1), D.u (x.words 2), D.u (x.words 3), D.u (x.words 4), D.u (x.words 5), D.u (x.words 6), D.u (x.words 7), D.u (x.words 8), D.u (x.words 9), D.u (x.words 10), D.u (x.words 11), D.u (x.words 12), D.u (x.words 13), D.u (x.words 14), D.u (x.words 15)]
@[go_sem] theorem XRealOwned.len (x : XRealOwned) : x.enc.cells.length = 18 := rfl
@[go_sem] theorem XRealOwned.vlen (x : XRealOwned) : (V.d x.enc).cells.length = 18 := rfl
@[go_sem] theorem XRealOwned.zcells : (V.d XRealOwned.zero.enc).cells = [.d (D.u XRealOwned.zero.frame.owner), .d (D.i XRealOwned.zero.frame.page), .d (D.u (XRealOwned.zero.words 0)), .d (D.u (XRealOwned.zero.words 1)), .d (D.u (XRealOwned.zero.words 2)), .d (D.u (XRealOwned.zero.words 3)), .d (D.u (XRealOwned.zero.words 4)), .d (D.u (XRealOwned.zero.words 5)), .d (D.u (XRealOwned.zero.words 6)), .d (D.u (XRealOwned.zero.words 7)), .d (D.u (XRealOwned.zero.words 8)), .d (D.u (XRealOwned.zero.words 9)), .d (D.u (XRealOwned.zero.words 10)), .d (D.u (XRealOwned.zero.words 11)), .d (D.u (XRealOwned.zero.words 12)), .d (D.u (XRealOwned.zero.words 13)), .d (D.u (XRealOwned.zero.words 14)), .d (D.u (XRealOwned.zero.words 15))] := rfl
@[go_sem] theorem XRealOwned.z_frame : XRealOwned.zero.frame = XFrame.zero := rfl
@[go_sem] theorem XRealOwned.z_words : XRealOwned.zero.words = (fun _ => 0) := rfl
@[go_sem] theorem XRealOwned.isStr (x : XRealOwned) : (V.d x.enc).isStr = true := rfl
theorem XRealOwned.agg (x : XRealOwned) : x.enc = .agg [D.u x.frame.owner, D.i x.frame.page, D.u (x.words 0), D.u (x.words 1), D.u (x.words 2), D.u (x.words 3), D.u (x.words 4), D.u (x.words 5), D.u (x.words 6), D.u (x.words 7), D.u (x.words 8), D.u (x.words 9), D.u (x.words 10), D.u (x.words 11), D.u (x.words 12), D.u (x.words 13), D.u (x.words 14), D.u (x.words 15)] := rfl
@[go_sem] theorem XRealOwned.toD (x : XRealOwned) : V.toD (V.d x.enc) = some x.enc := rfl
@[go_sem] theorem XRealOwned.ld (x : XRealOwned) : loadBox true 0 18 (.d x.enc) = .d x.enc := by unfold XRealOwned.enc loadBox; rfl
@[go_sem] theorem XRealOwned.tk (x : XRealOwned) : takeD true 18 x.enc.cells = .d x.enc := by unfold XRealOwned.enc takeD D.cells; rfl
@[go_sem] theorem XRealOwned.st (x : XRealOwned) (c : V) (h : c.cells.length = 18) : storeBox 0 (.d x.enc) c = .d x.enc := by unfold storeBox; rw [if_pos ⟨rfl, by rw [h]; rfl⟩]
@[go_sem] theorem XRealOwned.ld_frame (x : XRealOwned) : loadBox true 0 2 (.d x.enc) = .d (XFrame.enc x.frame) := by unfold XRealOwned.enc loadBox; rfl
@[go_sem] theorem XRealOwned.tk_frame (x : XRealOwned) : takeD true 2 (x.enc.cells) = .d (XFrame.enc x.frame) := by unfold XRealOwned.enc takeD D.cells; rfl
@[go_sem] theorem XRealOwned.st_frame (x : XRealOwned) (v : XFrame) : storeBox 0 (.d (XFrame.enc v)) (.d x.enc) = .d ({ x with frame := v }).enc := by unfold storeBox; rfl
@[go_sem] theorem XRealOwned.ld_frame_Owner (x : XRealOwned) : loadBox false 0 1 (.d x.enc) = .d (D.u x.frame.owner) := by unfold XRealOwned.enc loadBox; rfl
@[go_sem] theorem XRealOwned.tk_frame_Owner (x : XRealOwned) : takeD false 1 (x.enc.cells) = .d (D.u x.frame.owner) := by unfold XRealOwned.enc takeD D.cells; rfl
@[go_sem] theorem XRealOwned.st_frame_Owner (x : XRealOwned) (v : Int) : storeBox 0 (.d (D.u v)) (.d x.enc) = .d ({ x with frame := { x.frame with owner := v } } : XRealOwned).enc := by unfold storeBox; rfl
@[go_sem] theorem XRealOwned.ld_frame_Page (x : XRealOwned) : loadBox false 1 1 (.d x.enc) = .d (D.i x.frame.page) := by unfold XRealOwned.enc loadBox; rfl
@[go_sem] theorem XRealOwned.tk_frame_Page (x : XRealOwned) : takeD false 1 (x.enc.cells.drop 1) = .d (D.i x.frame.page) := by unfold XRealOwned.enc takeD D.cells; rfl
@[go_sem] theorem XRealOwned.st_frame_Page (x : XRealOwned) (v : Int) : storeBox 1 (.d (D.i v)) (.d x.enc) = .d ({ x with frame := { x.frame with page := v } } : XRealOwned).enc := by unfold storeBox; rfl
@[go_sem] theorem XRealOwned.ld_words (x : XRealOwned) : loadBox true 2 16 (.d x.enc) = .d (encA16_u64 x.words) := by unfold XRealOwned.enc loadBox; rfl
@[go_sem] theorem XRealOwned.tk_words (x : XRealOwned) : takeD true 16 (x.enc.cells.drop 2) = .d (encA16_u64 x.words) := by unfold XRealOwned.enc takeD D.cells; rfl
@[go_sem] theorem XRealOwned.ld_words_0 (x : XRealOwned) : loadBox false 2 1 (.d x.enc) = .d (D.u (x.words 0)) := by unfold XRealOwned.enc loadBox; rfl
@[go_sem] theorem XRealOwned.tk_words_0 (x : XRealOwned) : takeD false 1 (x.enc.cells.drop 2) = .d (D.u (x.words 0)) := by unfold XRealOwned.enc takeD D.cells; rfl
@[go_sem] theorem XRealOwned.ld_words_1 (x : XRealOwned) : loadBox false 3 1 (.d x.enc) = .d (D.u (x.words 1)) := by unfold XRealOwned.enc loadBox; rfl
@[go_sem] theorem XRealOwned.tk_words_1 (x : XRealOwned) : takeD false 1 (x.enc.cells.drop 3) = .d (D.u (x.words 1)) := by unfold XRealOwned.enc takeD D.cells; rfl
@[go_sem] theorem XRealOwned.ld_words_2 (x : XRealOwned) : loadBox false 4 1 (.d x.enc) = .d (D.u (x.words 2)) := by unfold XRealOwned.enc loadBox; rfl
@[go_sem] theorem XRealOwned.tk_words_2 (x : XRealOwned) : takeD false 1 (x.enc.cells.drop 4) = .d (D.u (x.words 2)) := by unfold XRealOwned.enc takeD D.cells; rfl
@[go_sem] theorem XRealOwned.ld_words_3 (x : XRealOwned) : loadBox false 5 1 (.d x.enc) = .d (D.u (x.words 3)) := by unfold XRealOwned.enc loadBox; rfl
@[go_sem] theorem XRealOwned.tk_words_3 (x : XRealOwned) : takeD false 1 (x.enc.cells.drop 5) = .d (D.u (x.words 3)) := by unfold XRealOwned.enc takeD D.cells; rfl
@[go_sem] theorem XRealOwned.ld_words_4 (x : XRealOwned) : loadBox false 6 1 (.d x.enc) = .d (D.u (x.words 4)) := by unfold XRealOwned.enc loadBox; rfl
@[go_sem] theorem XRealOwned.tk_words_4 (x : XRealOwned) : takeD false 1 (x.enc.cells.drop 6) = .d (D.u (x.words 4)) := by unfold XRealOwned.enc takeD D.cells; rfl
@[go_sem] theorem XRealOwned.ld_words_5 (x : XRealOwned) : loadBox false 7 1 (.d x.enc) = .d (D.u (x.words 5)) := by unfold XRealOwned.enc loadBox; rfl
@[go_sem] theorem XRealOwned.tk_words_5 (x : XRealOwned) : takeD false 1 (x.enc.cells.drop 7) = .d (D.u (x.words 5)) := by unfold XRealOwned.enc takeD D.cells; rfl
@[go_sem] theorem XRealOwned.ld_words_6 (x : XRealOwned) : loadBox false 8 1 (.d x.enc) = .d (D.u (x.words 6)) := by unfold XRealOwned.enc loadBox; rfl
@[go_sem] theorem XRealOwned.tk_words_6 (x : XRealOwned) : takeD false 1 (x.enc.cells.drop 8) = .d (D.u (x.words 6)) := by unfold XRealOwned.enc takeD D.cells; rfl
@[go_sem] theorem XRealOwned.ld_words_7 (x : XRealOwned) : loadBox false 9 1 (.d x.enc) = .d (D.u (x.words 7)) := by unfold XRealOwned.enc loadBox; rfl
@[go_sem] theorem XRealOwned.tk_words_7 (x : XRealOwned) : takeD false 1 (x.enc.cells.drop 9) = .d (D.u (x.words 7)) := by unfold XRealOwned.enc takeD D.cells; rfl
@[go_sem] theorem XRealOwned.ld_words_8 (x : XRealOwned) : loadBox false 10 1 (.d x.enc) = .d (D.u (x.words 8)) := by unfold XRealOwned.enc loadBox; rfl
@[go_sem] theorem XRealOwned.tk_words_8 (x : XRealOwned) : takeD false 1 (x.enc.cells.drop 10) = .d (D.u (x.words 8)) := by unfold XRealOwned.enc takeD D.cells; rfl
@[go_sem] theorem XRealOwned.ld_words_9 (x : XRealOwned) : loadBox false 11 1 (.d x.enc) = .d (D.u (x.words 9)) := by unfold XRealOwned.enc loadBox; rfl
@[go_sem] theorem XRealOwned.tk_words_9 (x : XRealOwned) : takeD false 1 (x.enc.cells.drop 11) = .d (D.u (x.words 9)) := by unfold XRealOwned.enc takeD D.cells; rfl
@[go_sem] theorem XRealOwned.ld_words_10 (x : XRealOwned) : loadBox false 12 1 (.d x.enc) = .d (D.u (x.words 10)) := by unfold XRealOwned.enc loadBox; rfl
@[go_sem] theorem XRealOwned.tk_words_10 (x : XRealOwned) : takeD false 1 (x.enc.cells.drop 12) = .d (D.u (x.words 10)) := by unfold XRealOwned.enc takeD D.cells; rfl
@[go_sem] theorem XRealOwned.ld_words_11 (x : XRealOwned) : loadBox false 13 1 (.d x.enc) = .d (D.u (x.words 11)) := by unfold XRealOwned.enc loadBox; rfl
@[go_sem] theorem XRealOwned.tk_words_11 (x : XRealOwned) : takeD false 1 (x.enc.cells.drop 13) = .d (D.u (x.words 11)) := by unfold XRealOwned.enc takeD D.cells; rfl
@[go_sem] theorem XRealOwned.ld_words_12 (x : XRealOwned) : loadBox false 14 1 (.d x.enc) = .d (D.u (x.words 12)) := by unfold XRealOwned.enc loadBox; rfl
@[go_sem] theorem XRealOwned.tk_words_12 (x : XRealOwned) : takeD false 1 (x.enc.cells.drop 14) = .d (D.u (x.words 12)) := by unfold XRealOwned.enc takeD D.cells; rfl
@[go_sem] theorem XRealOwned.ld_words_13 (x : XRealOwned) : loadBox false 15 1 (.d x.enc) = .d (D.u (x.words 13)) := by unfold XRealOwned.enc loadBox; rfl
@[go_sem] theorem XRealOwned.tk_words_13 (x : XRealOwned) : takeD false 1 (x.enc.cells.drop 15) = .d (D.u (x.words 13)) := by unfold XRealOwned.enc takeD D.cells; rfl
@[go_sem] theorem XRealOwned.ld_words_14 (x : XRealOwned) : loadBox false 16 1 (.d x.enc) = .d (D.u (x.words 14)) := by unfold XRealOwned.enc loadBox; rfl
@[go_sem] theorem XRealOwned.tk_words_14 (x : XRealOwned) : takeD false 1 (x.enc.cells.drop 16) = .d (D.u (x.words 14)) := by unfold XRealOwned.enc takeD D.cells; rfl
@[go_sem] theorem XRealOwned.ld_words_15 (x : XRealOwned) : loadBox false 17 1 (.d x.enc) = .d (D.u (x.words 15)) := by unfold XRealOwned.enc loadBox; rfl
@[go_sem] theorem XRealOwned.tk_words_15 (x : XRealOwned) : takeD false 1 (x.enc.cells.drop 17) = .d (D.u (x.words 15)) := by unfold XRealOwned.enc takeD D.cells; rfl
structure XBootThrown where
  why : Int
def XBootThrown.zero : XBootThrown := ⟨0⟩
def XBootThrown.enc (x : XBootThrown) : D := .agg [D.i x.why]
@[go_sem] theorem XBootThrown.len (x : XBootThrown) : x.enc.cells.length = 1 := rfl
@[go_sem] theorem XBootThrown.vlen (x : XBootThrown) : (V.d x.enc).cells.length = 1 := rfl
@[go_sem] theorem XBootThrown.zcells : (V.d XBootThrown.zero.enc).cells = [.d (D.i XBootThrown.zero.why)] := rfl
@[go_sem] theorem XBootThrown.z_why : XBootThrown.zero.why = 0 := rfl
@[go_sem] theorem XBootThrown.isStr (x : XBootThrown) : (V.d x.enc).isStr = true := rfl
theorem XBootThrown.agg (x : XBootThrown) : x.enc = .agg [D.i x.why] := rfl
@[go_sem] theorem XBootThrown.toD (x : XBootThrown) : V.toD (V.d x.enc) = some x.enc := rfl
@[go_sem] theorem XBootThrown.ld (x : XBootThrown) : loadBox true 0 1 (.d x.enc) = .d x.enc := by unfold XBootThrown.enc loadBox; rfl
@[go_sem] theorem XBootThrown.tk (x : XBootThrown) : takeD true 1 x.enc.cells = .d x.enc := by unfold XBootThrown.enc takeD D.cells; rfl
@[go_sem] theorem XBootThrown.st (x : XBootThrown) (c : V) (h : c.cells.length = 1) : storeBox 0 (.d x.enc) c = .d x.enc := by unfold storeBox; rw [if_pos ⟨rfl, by rw [h]; rfl⟩]
@[go_sem] theorem XBootThrown.ld_why (x : XBootThrown) : loadBox false 0 1 (.d x.enc) = .d (D.i x.why) := by unfold XBootThrown.enc loadBox; rfl
@[go_sem] theorem XBootThrown.tk_why (x : XBootThrown) : takeD false 1 (x.enc.cells) = .d (D.i x.why) := by unfold XBootThrown.enc takeD D.cells; rfl
structure XSerialGiver where
  span : XSpan
def XSerialGiver.zero : XSerialGiver := ⟨XSpan.zero⟩
def XSerialGiver.enc (x : XSerialGiver) : D := .agg [D.u x.span.lo, D.u x.span.hi]
@[go_sem] theorem XSerialGiver.len (x : XSerialGiver) : x.enc.cells.length = 2 := rfl
@[go_sem] theorem XSerialGiver.vlen (x : XSerialGiver) : (V.d x.enc).cells.length = 2 := rfl
@[go_sem] theorem XSerialGiver.zcells : (V.d XSerialGiver.zero.enc).cells = [.d (D.u XSerialGiver.zero.span.lo), .d (D.u XSerialGiver.zero.span.hi)] := rfl
@[go_sem] theorem XSerialGiver.z_span : XSerialGiver.zero.span = XSpan.zero := rfl
@[go_sem] theorem XSerialGiver.isStr (x : XSerialGiver) : (V.d x.enc).isStr = true := rfl
theorem XSerialGiver.agg (x : XSerialGiver) : x.enc = .agg [D.u x.span.lo, D.u x.span.hi] := rfl
@[go_sem] theorem XSerialGiver.toD (x : XSerialGiver) : V.toD (V.d x.enc) = some x.enc := rfl
@[go_sem] theorem XSerialGiver.ld (x : XSerialGiver) : loadBox true 0 2 (.d x.enc) = .d x.enc := by unfold XSerialGiver.enc loadBox; rfl
@[go_sem] theorem XSerialGiver.tk (x : XSerialGiver) : takeD true 2 x.enc.cells = .d x.enc := by unfold XSerialGiver.enc takeD D.cells; rfl
@[go_sem] theorem XSerialGiver.st (x : XSerialGiver) (c : V) (h : c.cells.length = 2) : storeBox 0 (.d x.enc) c = .d x.enc := by unfold storeBox; rw [if_pos ⟨rfl, by rw [h]; rfl⟩]
@[go_sem] theorem XSerialGiver.ld_Span_Lo (x : XSerialGiver) : loadBox false 0 1 (.d x.enc) = .d (D.u x.span.lo) := by unfold XSerialGiver.enc loadBox; rfl
@[go_sem] theorem XSerialGiver.tk_Span_Lo (x : XSerialGiver) : takeD false 1 (x.enc.cells) = .d (D.u x.span.lo) := by unfold XSerialGiver.enc takeD D.cells; rfl
@[go_sem] theorem XSerialGiver.st_Span_Lo (x : XSerialGiver) (v : Int) : storeBox 0 (.d (D.u v)) (.d x.enc) = .d ({ x with span := { x.span with lo := v } } : XSerialGiver).enc := by unfold storeBox; rfl
@[go_sem] theorem XSerialGiver.ld_Span_Hi (x : XSerialGiver) : loadBox false 1 1 (.d x.enc) = .d (D.u x.span.hi) := by unfold XSerialGiver.enc loadBox; rfl
@[go_sem] theorem XSerialGiver.tk_Span_Hi (x : XSerialGiver) : takeD false 1 (x.enc.cells.drop 1) = .d (D.u x.span.hi) := by unfold XSerialGiver.enc takeD D.cells; rfl
@[go_sem] theorem XSerialGiver.st_Span_Hi (x : XSerialGiver) (v : Int) : storeBox 1 (.d (D.u v)) (.d x.enc) = .d ({ x with span := { x.span with hi := v } } : XSerialGiver).enc := by unfold storeBox; rfl
structure XLabelLevels where
  a : Int
  b : Int
def XLabelLevels.zero : XLabelLevels := ⟨0, 0⟩
def XLabelLevels.enc (x : XLabelLevels) : D := .agg [D.i x.a, D.i x.b]
@[go_sem] theorem XLabelLevels.len (x : XLabelLevels) : x.enc.cells.length = 2 := rfl
@[go_sem] theorem XLabelLevels.vlen (x : XLabelLevels) : (V.d x.enc).cells.length = 2 := rfl
@[go_sem] theorem XLabelLevels.zcells : (V.d XLabelLevels.zero.enc).cells = [.d (D.i XLabelLevels.zero.a), .d (D.i XLabelLevels.zero.b)] := rfl
@[go_sem] theorem XLabelLevels.z_a : XLabelLevels.zero.a = 0 := rfl
@[go_sem] theorem XLabelLevels.z_b : XLabelLevels.zero.b = 0 := rfl
@[go_sem] theorem XLabelLevels.isStr (x : XLabelLevels) : (V.d x.enc).isStr = true := rfl
theorem XLabelLevels.agg (x : XLabelLevels) : x.enc = .agg [D.i x.a, D.i x.b] := rfl
@[go_sem] theorem XLabelLevels.toD (x : XLabelLevels) : V.toD (V.d x.enc) = some x.enc := rfl
@[go_sem] theorem XLabelLevels.ld (x : XLabelLevels) : loadBox true 0 2 (.d x.enc) = .d x.enc := by unfold XLabelLevels.enc loadBox; rfl
@[go_sem] theorem XLabelLevels.tk (x : XLabelLevels) : takeD true 2 x.enc.cells = .d x.enc := by unfold XLabelLevels.enc takeD D.cells; rfl
@[go_sem] theorem XLabelLevels.st (x : XLabelLevels) (c : V) (h : c.cells.length = 2) : storeBox 0 (.d x.enc) c = .d x.enc := by unfold storeBox; rw [if_pos ⟨rfl, by rw [h]; rfl⟩]
@[go_sem] theorem XLabelLevels.ld_a (x : XLabelLevels) : loadBox false 0 1 (.d x.enc) = .d (D.i x.a) := by unfold XLabelLevels.enc loadBox; rfl
@[go_sem] theorem XLabelLevels.tk_a (x : XLabelLevels) : takeD false 1 (x.enc.cells) = .d (D.i x.a) := by unfold XLabelLevels.enc takeD D.cells; rfl
@[go_sem] theorem XLabelLevels.st_a (x : XLabelLevels) (v : Int) : storeBox 0 (.d (D.i v)) (.d x.enc) = .d ({ x with a := v } : XLabelLevels).enc := by unfold storeBox; rfl
@[go_sem] theorem XLabelLevels.ld_b (x : XLabelLevels) : loadBox false 1 1 (.d x.enc) = .d (D.i x.b) := by unfold XLabelLevels.enc loadBox; rfl
@[go_sem] theorem XLabelLevels.tk_b (x : XLabelLevels) : takeD false 1 (x.enc.cells.drop 1) = .d (D.i x.b) := by unfold XLabelLevels.enc takeD D.cells; rfl
@[go_sem] theorem XLabelLevels.st_b (x : XLabelLevels) (v : Int) : storeBox 1 (.d (D.i v)) (.d x.enc) = .d ({ x with b := v } : XLabelLevels).enc := by unfold storeBox; rfl
structure XReachThrown where
  why : Int
def XReachThrown.zero : XReachThrown := ⟨0⟩
def XReachThrown.enc (x : XReachThrown) : D := .agg [D.i x.why]
@[go_sem] theorem XReachThrown.len (x : XReachThrown) : x.enc.cells.length = 1 := rfl
@[go_sem] theorem XReachThrown.vlen (x : XReachThrown) : (V.d x.enc).cells.length = 1 := rfl
@[go_sem] theorem XReachThrown.zcells : (V.d XReachThrown.zero.enc).cells = [.d (D.i XReachThrown.zero.why)] := rfl
@[go_sem] theorem XReachThrown.z_why : XReachThrown.zero.why = 0 := rfl
@[go_sem] theorem XReachThrown.isStr (x : XReachThrown) : (V.d x.enc).isStr = true := rfl
theorem XReachThrown.agg (x : XReachThrown) : x.enc = .agg [D.i x.why] := rfl
@[go_sem] theorem XReachThrown.toD (x : XReachThrown) : V.toD (V.d x.enc) = some x.enc := rfl
@[go_sem] theorem XReachThrown.ld (x : XReachThrown) : loadBox true 0 1 (.d x.enc) = .d x.enc := by unfold XReachThrown.enc loadBox; rfl
@[go_sem] theorem XReachThrown.tk (x : XReachThrown) : takeD true 1 x.enc.cells = .d x.enc := by unfold XReachThrown.enc takeD D.cells; rfl
@[go_sem] theorem XReachThrown.st (x : XReachThrown) (c : V) (h : c.cells.length = 1) : storeBox 0 (.d x.enc) c = .d x.enc := by unfold storeBox; rw [if_pos ⟨rfl, by rw [h]; rfl⟩]
@[go_sem] theorem XReachThrown.ld_why (x : XReachThrown) : loadBox false 0 1 (.d x.enc) = .d (D.i x.why) := by unfold XReachThrown.enc loadBox; rfl
@[go_sem] theorem XReachThrown.tk_why (x : XReachThrown) : takeD false 1 (x.enc.cells) = .d (D.i x.why) := by unfold XReachThrown.enc takeD D.cells; rfl
structure XReachFinder where
  object : XObject
  w : XWorld
def XReachFinder.zero : XReachFinder := ⟨XObject.zero, XWorld.zero⟩
def XReachFinder.enc (x : XReachFinder) : D := .agg [D.u x.object.id, D.i x.object.kind, encL XPair.enc x.object.label, D.i x.object.quota, D.b x.object.fixed, encL D.u x.object.links, encL D.u x.object.data, encL XPagesReach.enc x.object.maps, D.u (x.object.thread.regs 0), D.u (x.object.thread.regs 1), D.u (x.object.thread.regs 2), D.u (x.object.thread.regs 3), D.u (x.object.thread.regs 4), D.u (x.object.thread.regs 5), D.u (x.object.thread.regs 6), D.u (x.object.thread.regs 7), D.u (x.object.thread.regs 8), D.u (x.object.thread.regs 9), D.u (x.object.thread.regs 10), D.u (x.object.thread.regs 11), D.u (x.object.thread.regs 12), D.u (x.object.thread.regs 13), D.u (x.object.thread.regs 14), D.u (x.object.thread.regs 15), D.u x.object.thread.pc, encL XPair.enc x.object.thread.clear, D.u x.object.thread.space.cont, D.u x.object.thread.space.id, D.u x.object.thread.handler, D.u x.object.thread.vector, D.i x.object.thread.state, D.u x.object.thread.wait.ref.cont, D.u x.object.thread.wait.ref.id, D.u x.object.thread.wait.index, D.u x.object.thread.wait.val, D.b x.object.thread.wait.dev, encL D.u x.object.thread.alerts, D.u x.object.thread.span.lo, D.u x.object.thread.span.hi, encL XPair.enc (x.object.thread.labs 0), encL XPair.enc (x.object.thread.labs 1), encL XPair.enc (x.object.thread.labs 2), encL XPair.enc (x.object.thread.labs 3), encL XPair.enc x.object.gate.grant, encL XPair.enc x.object.gate.clear, D.u x.object.gate.space.cont, D.u x.object.gate.space.id, D.u x.object.gate.pc, D.u x.object.gate.arg, encL D.u x.object.in', encL D.u x.object.out, D.i x.w.time, D.u x.w.key, D.u x.w.root, encL XObject.enc x.w.objects]
@[go_sem] theorem XReachFinder.len (x : XReachFinder) : x.enc.cells.length = 55 := rfl
@[go_sem] theorem XReachFinder.vlen (x : XReachFinder) : (V.d x.enc).cells.length = 55 := rfl
@[go_sem] theorem XReachFinder.zcells : (V.d XReachFinder.zero.enc).cells = [.d (D.u XReachFinder.zero.object.id), .d (D.i XReachFinder.zero.object.kind), .d (encL XPair.enc XReachFinder.zero.object.label), .d (D.i XReachFinder.zero.object.quota), .d (D.b XReachFinder.zero.object.fixed), .d (encL D.u XReachFinder.zero.object.links), .d (encL D.u XReachFinder.zero.object.data), .d (encL XPagesReach.enc XReachFinder.zero.object.maps), .d (D.u (XReachFinder.zero.object.thread.regs 0)), .d (D.u (XReachFinder.zero.object.thread.regs 1)), .d (D.u (XReachFinder.zero.object.thread.regs 2)), .d (D.u (XReachFinder.zero.object.thread.regs 3)), .d (D.u (XReachFinder.zero.object.thread.regs 4)), .d (D.u (XReachFinder.zero.object.thread.regs 5)), .d (D.u (XReachFinder.zero.object.thread.regs 6)), .d (D.u (XReachFinder.zero.object.thread.regs 7)), .d (D.u (XReachFinder.zero.object.thread.regs 8)), .d (D.u (XReachFinder.zero.object.thread.regs 9)), .d (D.u (XReachFinder.zero.object.thread.regs 10)), .d (D.u (XReachFinder.zero.object.thread.regs 11)), .d (D.u (XReachFinder.zero.object.thread.regs 12)), .d (D.u (XReachFinder.zero.object.thread.regs 13)), .d (D.u (XReachFinder.zero.object.thread.regs 14)), .d (D.u (XReachFinder.zero.object.thread.regs 15)), .d (D.u XReachFinder.zero.object.thread.pc), .d (encL XPair.enc XReachFinder.zero.object.thread.clear), .d (D.u XReachFinder.zero.object.thread.space.cont), .d (D.u XReachFinder.zero.object.thread.space.id), .d (D.u XReachFinder.zero.object.thread.handler), .d (D.u XReachFinder.zero.object.thread.vector), .d (D.i XReachFinder.zero.object.thread.state), .d (D.u XReachFinder.zero.object.thread.wait.ref.cont), .d (D.u XReachFinder.zero.object.thread.wait.ref.id), .d (D.u XReachFinder.zero.object.thread.wait.index), .d (D.u XReachFinder.zero.object.thread.wait.val), .d (D.b XReachFinder.zero.object.thread.wait.dev), .d (encL D.u XReachFinder.zero.object.thread.alerts), .d (D.u XReachFinder.zero.object.thread.span.lo), .d (D.u XReachFinder.zero.object.thread.span.hi), .d (encL XPair.enc (XReachFinder.zero.object.thread.labs 0)), .d (encL XPair.enc (XReachFinder.zero.object.thread.labs 1)), .d (encL XPair.enc (XReachFinder.zero.object.thread.labs 2)), .d (encL XPair.enc (XReachFinder.zero.object.thread.labs 3)), .d (encL XPair.enc XReachFinder.zero.object.gate.grant), .d (encL XPair.enc XReachFinder.zero.object.gate.clear), .d (D.u XReachFinder.zero.object.gate.space.cont), .d (D.u XReachFinder.zero.object.gate.space.id), .d (D.u XReachFinder.zero.object.gate.pc), .d (D.u XReachFinder.zero.object.gate.arg), .d (encL D.u XReachFinder.zero.object.in'), .d (encL D.u XReachFinder.zero.object.out), .d (D.i XReachFinder.zero.w.time), .d (D.u XReachFinder.zero.w.key), .d (D.u XReachFinder.zero.w.root), .d (encL XObject.enc XReachFinder.zero.w.objects)] := rfl
@[go_sem] theorem XReachFinder.z_object : XReachFinder.zero.object = XObject.zero := rfl
@[go_sem] theorem XReachFinder.z_w : XReachFinder.zero.w = XWorld.zero := rfl
@[go_sem] theorem XReachFinder.isStr (x : XReachFinder) : (V.d x.enc).isStr = true := rfl
theorem XReachFinder.agg (x : XReachFinder) : x.enc = .agg [D.u x.object.id, D.i x.object.kind, encL XPair.enc x.object.label, D.i x.object.quota, D.b x.object.fixed, encL D.u x.object.links, encL D.u x.object.data, encL XPagesReach.enc x.object.maps, D.u (x.object.thread.regs 0), D.u (x.object.thread.regs 1), D.u (x.object.thread.regs 2), D.u (x.object.thread.regs 3), D.u (x.object.thread.regs 4), D.u (x.object.thread.regs 5), D.u (x.object.thread.regs 6), D.u (x.object.thread.regs 7), D.u (x.object.thread.regs 8), D.u (x.object.thread.regs 9), D.u (x.object.thread.regs 10), D.u (x.object.thread.regs 11), D.u (x.object.thread.regs 12), D.u (x.object.thread.regs 13), D.u (x.object.thread.regs 14), D.u (x.object.thread.regs 15), D.u x.object.thread.pc, encL XPair.enc x.object.thread.clear, D.u x.object.thread.space.cont, D.u x.object.thread.space.id, D.u x.object.thread.handler, D.u x.object.thread.vector, D.i x.object.thread.state, D.u x.object.thread.wait.ref.cont, D.u x.object.thread.wait.ref.id, D.u x.object.thread.wait.index, D.u x.object.thread.wait.val, D.b x.object.thread.wait.dev, encL D.u x.object.thread.alerts, D.u x.object.thread.span.lo, D.u x.object.thread.span.hi, encL XPair.enc (x.object.thread.labs 0), encL XPair.enc (x.object.thread.labs 1), encL XPair.enc (x.object.thread.labs 2), encL XPair.enc (x.object.thread.labs 3), encL XPair.enc x.object.gate.grant, encL XPair.enc x.object.gate.clear, D.u x.object.gate.space.cont, D.u x.object.gate.space.id, D.u x.object.gate.pc, D.u x.object.gate.arg, encL D.u x.object.in', encL D.u x.object.out, D.i x.w.time, D.u x.w.key, D.u x.w.root, encL XObject.enc x.w.objects] := rfl
@[go_sem] theorem XReachFinder.toD (x : XReachFinder) : V.toD (V.d x.enc) = some x.enc := rfl
@[go_sem] theorem XReachFinder.ld (x : XReachFinder) : loadBox true 0 55 (.d x.enc) = .d x.enc := by unfold XReachFinder.enc loadBox; rfl
@[go_sem] theorem XReachFinder.tk (x : XReachFinder) : takeD true 55 x.enc.cells = .d x.enc := by unfold XReachFinder.enc takeD D.cells; rfl
@[go_sem] theorem XReachFinder.st (x : XReachFinder) (c : V) (h : c.cells.length = 55) : storeBox 0 (.d x.enc) c = .d x.enc := by unfold storeBox; rw [if_pos ⟨rfl, by rw [h]; rfl⟩]
@[go_sem] theorem XReachFinder.ld_Object (x : XReachFinder) : loadBox true 0 51 (.d x.enc) = .d (XObject.enc x.object) := by unfold XReachFinder.enc loadBox; rfl
@[go_sem] theorem XReachFinder.tk_Object (x : XReachFinder) : takeD true 51 (x.enc.cells) = .d (XObject.enc x.object) := by unfold XReachFinder.enc takeD D.cells; rfl
@[go_sem] theorem XReachFinder.st_Object (x : XReachFinder) (v : XObject) : storeBox 0 (.d (XObject.enc v)) (.d x.enc) = .d ({ x with object := v }).enc := by unfold storeBox; rfl
@[go_sem] theorem XReachFinder.ld_Object_Id (x : XReachFinder) : loadBox false 0 1 (.d x.enc) = .d (D.u x.object.id) := by unfold XReachFinder.enc loadBox; rfl
@[go_sem] theorem XReachFinder.tk_Object_Id (x : XReachFinder) : takeD false 1 (x.enc.cells) = .d (D.u x.object.id) := by unfold XReachFinder.enc takeD D.cells; rfl
@[go_sem] theorem XReachFinder.st_Object_Id (x : XReachFinder) (v : Int) : storeBox 0 (.d (D.u v)) (.d x.enc) = .d ({ x with object := { x.object with id := v } } : XReachFinder).enc := by unfold storeBox; rfl
@[go_sem] theorem XReachFinder.ld_Object_Kind (x : XReachFinder) : loadBox false 1 1 (.d x.enc) = .d (D.i x.object.kind) := by unfold XReachFinder.enc loadBox; rfl
@[go_sem] theorem XReachFinder.tk_Object_Kind (x : XReachFinder) : takeD false 1 (x.enc.cells.drop 1) = .d (D.i x.object.kind) := by unfold XReachFinder.enc takeD D.cells; rfl
@[go_sem] theorem XReachFinder.st_Object_Kind (x : XReachFinder) (v : Int) : storeBox 1 (.d (D.i v)) (.d x.enc) = .d ({ x with object := { x.object with kind := v } } : XReachFinder).enc := by unfold storeBox; rfl
@[go_sem] theorem XReachFinder.ld_Object_Label (x : XReachFinder) : loadBox false 2 1 (.d x.enc) = .d (encL XPair.enc x.object.label) := by unfold XReachFinder.enc loadBox; rfl
@[go_sem] theorem XReachFinder.tk_Object_Label (x : XReachFinder) : takeD false 1 (x.enc.cells.drop 2) = .d (encL XPair.enc x.object.label) := by unfold XReachFinder.enc takeD D.cells; rfl
@[go_sem] theorem XReachFinder.st_Object_Label (x : XReachFinder) (v : List XPair) : storeBox 2 (.d (encL XPair.enc v)) (.d x.enc) = .d ({ x with object := { x.object with label := v } } : XReachFinder).enc := by unfold storeBox; rfl
@[go_sem] theorem XReachFinder.ld_Object_Quota (x : XReachFinder) : loadBox false 3 1 (.d x.enc) = .d (D.i x.object.quota) := by unfold XReachFinder.enc loadBox; rfl
@[go_sem] theorem XReachFinder.tk_Object_Quota (x : XReachFinder) : takeD false 1 (x.enc.cells.drop 3) = .d (D.i x.object.quota) := by unfold XReachFinder.enc takeD D.cells; rfl
@[go_sem] theorem XReachFinder.st_Object_Quota (x : XReachFinder) (v : Int) : storeBox 3 (.d (D.i v)) (.d x.enc) = .d ({ x with object := { x.object with quota := v } } : XReachFinder).enc := by unfold storeBox; rfl
@[go_sem] theorem XReachFinder.ld_Object_Fixed (x : XReachFinder) : loadBox false 4 1 (.d x.enc) = .d (D.b x.object.fixed) := by unfold XReachFinder.enc loadBox; rfl
@[go_sem] theorem XReachFinder.tk_Object_Fixed (x : XReachFinder) : takeD false 1 (x.enc.cells.drop 4) = .d (D.b x.object.fixed) := by unfold XReachFinder.enc takeD D.cells; rfl
@[go_sem] theorem XReachFinder.st_Object_Fixed (x : XReachFinder) (v : Bool) : storeBox 4 (.d (D.b v)) (.d x.enc) = .d ({ x with object := { x.object with fixed := v } } : XReachFinder).enc := by unfold storeBox; rfl
@[go_sem] theorem XReachFinder.ld_Object_Links (x : XReachFinder) : loadBox false 5 1 (.d x.enc) = .d (encL D.u x.object.links) := by unfold XReachFinder.enc loadBox; rfl
@[go_sem] theorem XReachFinder.tk_Object_Links (x : XReachFinder) : takeD false 1 (x.enc.cells.drop 5) = .d (encL D.u x.object.links) := by unfold XReachFinder.enc takeD D.cells; rfl
@[go_sem] theorem XReachFinder.st_Object_Links (x : XReachFinder) (v : List Int) : storeBox 5 (.d (encL D.u v)) (.d x.enc) = .d ({ x with object := { x.object with links := v } } : XReachFinder).enc := by unfold storeBox; rfl
@[go_sem] theorem XReachFinder.ld_Object_Data (x : XReachFinder) : loadBox false 6 1 (.d x.enc) = .d (encL D.u x.object.data) := by unfold XReachFinder.enc loadBox; rfl
@[go_sem] theorem XReachFinder.tk_Object_Data (x : XReachFinder) : takeD false 1 (x.enc.cells.drop 6) = .d (encL D.u x.object.data) := by unfold XReachFinder.enc takeD D.cells; rfl
@[go_sem] theorem XReachFinder.st_Object_Data (x : XReachFinder) (v : List Int) : storeBox 6 (.d (encL D.u v)) (.d x.enc) = .d ({ x with object := { x.object with data := v } } : XReachFinder).enc := by unfold storeBox; rfl
@[go_sem] theorem XReachFinder.ld_Object_Maps (x : XReachFinder) : loadBox false 7 1 (.d x.enc) = .d (encL XPagesReach.enc x.object.maps) := by unfold XReachFinder.enc loadBox; rfl
@[go_sem] theorem XReachFinder.tk_Object_Maps (x : XReachFinder) : takeD false 1 (x.enc.cells.drop 7) = .d (encL XPagesReach.enc x.object.maps) := by unfold XReachFinder.enc takeD D.cells; rfl
@[go_sem] theorem XReachFinder.st_Object_Maps (x : XReachFinder) (v : List XPagesReach) : storeBox 7 (.d (encL XPagesReach.enc v)) (.d x.enc) = .d ({ x with object := { x.object with maps := v } } : XReachFinder).enc := by unfold storeBox; rfl
@[go_sem] theorem XReachFinder.ld_Object_Thread (x : XReachFinder) : loadBox true 8 35 (.d x.enc) = .d (XThread.enc x.object.thread) := by unfold XReachFinder.enc loadBox; rfl
@[go_sem] theorem XReachFinder.tk_Object_Thread (x : XReachFinder) : takeD true 35 (x.enc.cells.drop 8) = .d (XThread.enc x.object.thread) := by unfold XReachFinder.enc takeD D.cells; rfl
@[go_sem] theorem XReachFinder.st_Object_Thread (x : XReachFinder) (v : XThread) : storeBox 8 (.d (XThread.enc v)) (.d x.enc) = .d ({ x with object := { x.object with thread := v } }).enc := by unfold storeBox; rfl
@[go_sem] theorem XReachFinder.ld_Object_Thread_Regs (x : XReachFinder) : loadBox true 8 16 (.d x.enc) = .d (encA16_u64 x.object.thread.regs) := by unfold XReachFinder.enc loadBox; rfl
@[go_sem] theorem XReachFinder.tk_Object_Thread_Regs (x : XReachFinder) : takeD true 16 (x.enc.cells.drop 8) = .d (encA16_u64 x.object.thread.regs) := by unfold XReachFinder.enc takeD D.cells; rfl
@[go_sem] theorem XReachFinder.ld_Object_Thread_Regs_0 (x : XReachFinder) : loadBox false 8 1 (.d x.enc) = .d (D.u (x.object.thread.regs 0)) := by unfold XReachFinder.enc loadBox; rfl
@[go_sem] theorem XReachFinder.tk_Object_Thread_Regs_0 (x : XReachFinder) : takeD false 1 (x.enc.cells.drop 8) = .d (D.u (x.object.thread.regs 0)) := by unfold XReachFinder.enc takeD D.cells; rfl
@[go_sem] theorem XReachFinder.ld_Object_Thread_Regs_1 (x : XReachFinder) : loadBox false 9 1 (.d x.enc) = .d (D.u (x.object.thread.regs 1)) := by unfold XReachFinder.enc loadBox; rfl
@[go_sem] theorem XReachFinder.tk_Object_Thread_Regs_1 (x : XReachFinder) : takeD false 1 (x.enc.cells.drop 9) = .d (D.u (x.object.thread.regs 1)) := by unfold XReachFinder.enc takeD D.cells; rfl
@[go_sem] theorem XReachFinder.ld_Object_Thread_Regs_2 (x : XReachFinder) : loadBox false 10 1 (.d x.enc) = .d (D.u (x.object.thread.regs 2)) := by unfold XReachFinder.enc loadBox; rfl
@[go_sem] theorem XReachFinder.tk_Object_Thread_Regs_2 (x : XReachFinder) : takeD false 1 (x.enc.cells.drop 10) = .d (D.u (x.object.thread.regs 2)) := by unfold XReachFinder.enc takeD D.cells; rfl
@[go_sem] theorem XReachFinder.ld_Object_Thread_Regs_3 (x : XReachFinder) : loadBox false 11 1 (.d x.enc) = .d (D.u (x.object.thread.regs 3)) := by unfold XReachFinder.enc loadBox; rfl
@[go_sem] theorem XReachFinder.tk_Object_Thread_Regs_3 (x : XReachFinder) : takeD false 1 (x.enc.cells.drop 11) = .d (D.u (x.object.thread.regs 3)) := by unfold XReachFinder.enc takeD D.cells; rfl
@[go_sem] theorem XReachFinder.ld_Object_Thread_Regs_4 (x : XReachFinder) : loadBox false 12 1 (.d x.enc) = .d (D.u (x.object.thread.regs 4)) := by unfold XReachFinder.enc loadBox; rfl
@[go_sem] theorem XReachFinder.tk_Object_Thread_Regs_4 (x : XReachFinder) : takeD false 1 (x.enc.cells.drop 12) = .d (D.u (x.object.thread.regs 4)) := by unfold XReachFinder.enc takeD D.cells; rfl
@[go_sem] theorem XReachFinder.ld_Object_Thread_Regs_5 (x : XReachFinder) : loadBox false 13 1 (.d x.enc) = .d (D.u (x.object.thread.regs 5)) := by unfold XReachFinder.enc loadBox; rfl
@[go_sem] theorem XReachFinder.tk_Object_Thread_Regs_5 (x : XReachFinder) : takeD false 1 (x.enc.cells.drop 13) = .d (D.u (x.object.thread.regs 5)) := by unfold XReachFinder.enc takeD D.cells; rfl
@[go_sem] theorem XReachFinder.ld_Object_Thread_Regs_6 (x : XReachFinder) : loadBox false 14 1 (.d x.enc) = .d (D.u (x.object.thread.regs 6)) := by unfold XReachFinder.enc loadBox; rfl
@[go_sem] theorem XReachFinder.tk_Object_Thread_Regs_6 (x : XReachFinder) : takeD false 1 (x.enc.cells.drop 14) = .d (D.u (x.object.thread.regs 6)) := by unfold XReachFinder.enc takeD D.cells; rfl
@[go_sem] theorem XReachFinder.ld_Object_Thread_Regs_7 (x : XReachFinder) : loadBox false 15 1 (.d x.enc) = .d (D.u (x.object.thread.regs 7)) := by unfold XReachFinder.enc loadBox; rfl
@[go_sem] theorem XReachFinder.tk_Object_Thread_Regs_7 (x : XReachFinder) : takeD false 1 (x.enc.cells.drop 15) = .d (D.u (x.object.thread.regs 7)) := by unfold XReachFinder.enc takeD D.cells; rfl
@[go_sem] theorem XReachFinder.ld_Object_Thread_Regs_8 (x : XReachFinder) : loadBox false 16 1 (.d x.enc) = .d (D.u (x.object.thread.regs 8)) := by unfold XReachFinder.enc loadBox; rfl
@[go_sem] theorem XReachFinder.tk_Object_Thread_Regs_8 (x : XReachFinder) : takeD false 1 (x.enc.cells.drop 16) = .d (D.u (x.object.thread.regs 8)) := by unfold XReachFinder.enc takeD D.cells; rfl
@[go_sem] theorem XReachFinder.ld_Object_Thread_Regs_9 (x : XReachFinder) : loadBox false 17 1 (.d x.enc) = .d (D.u (x.object.thread.regs 9)) := by unfold XReachFinder.enc loadBox; rfl
@[go_sem] theorem XReachFinder.tk_Object_Thread_Regs_9 (x : XReachFinder) : takeD false 1 (x.enc.cells.drop 17) = .d (D.u (x.object.thread.regs 9)) := by unfold XReachFinder.enc takeD D.cells; rfl
@[go_sem] theorem XReachFinder.ld_Object_Thread_Regs_10 (x : XReachFinder) : loadBox false 18 1 (.d x.enc) = .d (D.u (x.object.thread.regs 10)) := by unfold XReachFinder.enc loadBox; rfl
@[go_sem] theorem XReachFinder.tk_Object_Thread_Regs_10 (x : XReachFinder) : takeD false 1 (x.enc.cells.drop 18) = .d (D.u (x.object.thread.regs 10)) := by unfold XReachFinder.enc takeD D.cells; rfl
@[go_sem] theorem XReachFinder.ld_Object_Thread_Regs_11 (x : XReachFinder) : loadBox false 19 1 (.d x.enc) = .d (D.u (x.object.thread.regs 11)) := by unfold XReachFinder.enc loadBox; rfl
@[go_sem] theorem XReachFinder.tk_Object_Thread_Regs_11 (x : XReachFinder) : takeD false 1 (x.enc.cells.drop 19) = .d (D.u (x.object.thread.regs 11)) := by unfold XReachFinder.enc takeD D.cells; rfl
@[go_sem] theorem XReachFinder.ld_Object_Thread_Regs_12 (x : XReachFinder) : loadBox false 20 1 (.d x.enc) = .d (D.u (x.object.thread.regs 12)) := by unfold XReachFinder.enc loadBox; rfl
@[go_sem] theorem XReachFinder.tk_Object_Thread_Regs_12 (x : XReachFinder) : takeD false 1 (x.enc.cells.drop 20) = .d (D.u (x.object.thread.regs 12)) := by unfold XReachFinder.enc takeD D.cells; rfl
@[go_sem] theorem XReachFinder.ld_Object_Thread_Regs_13 (x : XReachFinder) : loadBox false 21 1 (.d x.enc) = .d (D.u (x.object.thread.regs 13)) := by unfold XReachFinder.enc loadBox; rfl
@[go_sem] theorem XReachFinder.tk_Object_Thread_Regs_13 (x : XReachFinder) : takeD false 1 (x.enc.cells.drop 21) = .d (D.u (x.object.thread.regs 13)) := by unfold XReachFinder.enc takeD D.cells; rfl
@[go_sem] theorem XReachFinder.ld_Object_Thread_Regs_14 (x : XReachFinder) : loadBox false 22 1 (.d x.enc) = .d (D.u (x.object.thread.regs 14)) := by unfold XReachFinder.enc loadBox; rfl
@[go_sem] theorem XReachFinder.tk_Object_Thread_Regs_14 (x : XReachFinder) : takeD false 1 (x.enc.cells.drop 22) = .d (D.u (x.object.thread.regs 14)) := by unfold XReachFinder.enc takeD D.cells; rfl
@[go_sem] theorem XReachFinder.ld_Object_Thread_Regs_15 (x : XReachFinder) : loadBox false 23 1 (.d x.enc) = .d (D.u (x.object.thread.regs 15)) := by unfold XReachFinder.enc loadBox; rfl
@[go_sem] theorem XReachFinder.tk_Object_Thread_Regs_15 (x : XReachFinder) : takeD false 1 (x.enc.cells.drop 23) = .d (D.u (x.object.thread.regs 15)) := by unfold XReachFinder.enc takeD D.cells; rfl
@[go_sem] theorem XReachFinder.ld_Object_Thread_Pc (x : XReachFinder) : loadBox false 24 1 (.d x.enc) = .d (D.u x.object.thread.pc) := by unfold XReachFinder.enc loadBox; rfl
@[go_sem] theorem XReachFinder.tk_Object_Thread_Pc (x : XReachFinder) : takeD false 1 (x.enc.cells.drop 24) = .d (D.u x.object.thread.pc) := by unfold XReachFinder.enc takeD D.cells; rfl
@[go_sem] theorem XReachFinder.st_Object_Thread_Pc (x : XReachFinder) (v : Int) : storeBox 24 (.d (D.u v)) (.d x.enc) = .d ({ x with object := { x.object with thread := { x.object.thread with pc := v } } } : XReachFinder).enc := by unfold storeBox; rfl
@[go_sem] theorem XReachFinder.ld_Object_Thread_Clear (x : XReachFinder) : loadBox false 25 1 (.d x.enc) = .d (encL XPair.enc x.object.thread.clear) := by unfold XReachFinder.enc loadBox; rfl
@[go_sem] theorem XReachFinder.tk_Object_Thread_Clear (x : XReachFinder) : takeD false 1 (x.enc.cells.drop 25) = .d (encL XPair.enc x.object.thread.clear) := by unfold XReachFinder.enc takeD D.cells; rfl
@[go_sem] theorem XReachFinder.st_Object_Thread_Clear (x : XReachFinder) (v : List XPair) : storeBox 25 (.d (encL XPair.enc v)) (.d x.enc) = .d ({ x with object := { x.object with thread := { x.object.thread with clear := v } } } : XReachFinder).enc := by unfold storeBox; rfl
@[go_sem] theorem XReachFinder.ld_Object_Thread_Space (x : XReachFinder) : loadBox true 26 2 (.d x.enc) = .d (XRef.enc x.object.thread.space) := by unfold XReachFinder.enc loadBox; rfl
@[go_sem] theorem XReachFinder.tk_Object_Thread_Space (x : XReachFinder) : takeD true 2 (x.enc.cells.drop 26) = .d (XRef.enc x.object.thread.space) := by unfold XReachFinder.enc takeD D.cells; rfl
@[go_sem] theorem XReachFinder.st_Object_Thread_Space (x : XReachFinder) (v : XRef) : storeBox 26 (.d (XRef.enc v)) (.d x.enc) = .d ({ x with object := { x.object with thread := { x.object.thread with space := v } } }).enc := by unfold storeBox; rfl
@[go_sem] theorem XReachFinder.ld_Object_Thread_Space_Cont (x : XReachFinder) : loadBox false 26 1 (.d x.enc) = .d (D.u x.object.thread.space.cont) := by unfold XReachFinder.enc loadBox; rfl
@[go_sem] theorem XReachFinder.tk_Object_Thread_Space_Cont (x : XReachFinder) : takeD false 1 (x.enc.cells.drop 26) = .d (D.u x.object.thread.space.cont) := by unfold XReachFinder.enc takeD D.cells; rfl
@[go_sem] theorem XReachFinder.st_Object_Thread_Space_Cont (x : XReachFinder) (v : Int) : storeBox 26 (.d (D.u v)) (.d x.enc) = .d ({ x with object := { x.object with thread := { x.object.thread with space := { x.object.thread.space with cont := v } } } } : XReachFinder).enc := by unfold storeBox; rfl
@[go_sem] theorem XReachFinder.ld_Object_Thread_Space_Id (x : XReachFinder) : loadBox false 27 1 (.d x.enc) = .d (D.u x.object.thread.space.id) := by unfold XReachFinder.enc loadBox; rfl
@[go_sem] theorem XReachFinder.tk_Object_Thread_Space_Id (x : XReachFinder) : takeD false 1 (x.enc.cells.drop 27) = .d (D.u x.object.thread.space.id) := by unfold XReachFinder.enc takeD D.cells; rfl
@[go_sem] theorem XReachFinder.st_Object_Thread_Space_Id (x : XReachFinder) (v : Int) : storeBox 27 (.d (D.u v)) (.d x.enc) = .d ({ x with object := { x.object with thread := { x.object.thread with space := { x.object.thread.space with id := v } } } } : XReachFinder).enc := by unfold storeBox; rfl
@[go_sem] theorem XReachFinder.ld_Object_Thread_Handler (x : XReachFinder) : loadBox false 28 1 (.d x.enc) = .d (D.u x.object.thread.handler) := by unfold XReachFinder.enc loadBox; rfl
@[go_sem] theorem XReachFinder.tk_Object_Thread_Handler (x : XReachFinder) : takeD false 1 (x.enc.cells.drop 28) = .d (D.u x.object.thread.handler) := by unfold XReachFinder.enc takeD D.cells; rfl
@[go_sem] theorem XReachFinder.st_Object_Thread_Handler (x : XReachFinder) (v : Int) : storeBox 28 (.d (D.u v)) (.d x.enc) = .d ({ x with object := { x.object with thread := { x.object.thread with handler := v } } } : XReachFinder).enc := by unfold storeBox; rfl
@[go_sem] theorem XReachFinder.ld_Object_Thread_Vector (x : XReachFinder) : loadBox false 29 1 (.d x.enc) = .d (D.u x.object.thread.vector) := by unfold XReachFinder.enc loadBox; rfl
@[go_sem] theorem XReachFinder.tk_Object_Thread_Vector (x : XReachFinder) : takeD false 1 (x.enc.cells.drop 29) = .d (D.u x.object.thread.vector) := by unfold XReachFinder.enc takeD D.cells; rfl
@[go_sem] theorem XReachFinder.st_Object_Thread_Vector (x : XReachFinder) (v : Int) : storeBox 29 (.d (D.u v)) (.d x.enc) = .d ({ x with object := { x.object with thread := { x.object.thread with vector := v } } } : XReachFinder).enc := by unfold storeBox; rfl
@[go_sem] theorem XReachFinder.ld_Object_Thread_State (x : XReachFinder) : loadBox false 30 1 (.d x.enc) = .d (D.i x.object.thread.state) := by unfold XReachFinder.enc loadBox; rfl
@[go_sem] theorem XReachFinder.tk_Object_Thread_State (x : XReachFinder) : takeD false 1 (x.enc.cells.drop 30) = .d (D.i x.object.thread.state) := by unfold XReachFinder.enc takeD D.cells; rfl
@[go_sem] theorem XReachFinder.st_Object_Thread_State (x : XReachFinder) (v : Int) : storeBox 30 (.d (D.i v)) (.d x.enc) = .d ({ x with object := { x.object with thread := { x.object.thread with state := v } } } : XReachFinder).enc := by unfold storeBox; rfl
@[go_sem] theorem XReachFinder.ld_Object_Thread_Wait (x : XReachFinder) : loadBox true 31 5 (.d x.enc) = .d (XWait.enc x.object.thread.wait) := by unfold XReachFinder.enc loadBox; rfl
@[go_sem] theorem XReachFinder.tk_Object_Thread_Wait (x : XReachFinder) : takeD true 5 (x.enc.cells.drop 31) = .d (XWait.enc x.object.thread.wait) := by unfold XReachFinder.enc takeD D.cells; rfl
@[go_sem] theorem XReachFinder.st_Object_Thread_Wait (x : XReachFinder) (v : XWait) : storeBox 31 (.d (XWait.enc v)) (.d x.enc) = .d ({ x with object := { x.object with thread := { x.object.thread with wait := v } } }).enc := by unfold storeBox; rfl
@[go_sem] theorem XReachFinder.ld_Object_Thread_Wait_Ref (x : XReachFinder) : loadBox true 31 2 (.d x.enc) = .d (XRef.enc x.object.thread.wait.ref) := by unfold XReachFinder.enc loadBox; rfl
@[go_sem] theorem XReachFinder.tk_Object_Thread_Wait_Ref (x : XReachFinder) : takeD true 2 (x.enc.cells.drop 31) = .d (XRef.enc x.object.thread.wait.ref) := by unfold XReachFinder.enc takeD D.cells; rfl
@[go_sem] theorem XReachFinder.st_Object_Thread_Wait_Ref (x : XReachFinder) (v : XRef) : storeBox 31 (.d (XRef.enc v)) (.d x.enc) = .d ({ x with object := { x.object with thread := { x.object.thread with wait := { x.object.thread.wait with ref := v } } } }).enc := by unfold storeBox; rfl
@[go_sem] theorem XReachFinder.ld_Object_Thread_Wait_Ref_Cont (x : XReachFinder) : loadBox false 31 1 (.d x.enc) = .d (D.u x.object.thread.wait.ref.cont) := by unfold XReachFinder.enc loadBox; rfl
@[go_sem] theorem XReachFinder.tk_Object_Thread_Wait_Ref_Cont (x : XReachFinder) : takeD false 1 (x.enc.cells.drop 31) = .d (D.u x.object.thread.wait.ref.cont) := by unfold XReachFinder.enc takeD D.cells; rfl
@[go_sem] theorem XReachFinder.st_Object_Thread_Wait_Ref_Cont (x : XReachFinder) (v : Int) : storeBox 31 (.d (D.u v)) (.d x.enc) = .d ({ x with object := { x.object with thread := { x.object.thread with wait := { x.object.thread.wait with ref := { x.object.thread.wait.ref with cont := v } } } } } : XReachFinder).enc := by unfold storeBox; rfl
@[go_sem] theorem XReachFinder.ld_Object_Thread_Wait_Ref_Id (x : XReachFinder) : loadBox false 32 1 (.d x.enc) = .d (D.u x.object.thread.wait.ref.id) := by unfold XReachFinder.enc loadBox; rfl
@[go_sem] theorem XReachFinder.tk_Object_Thread_Wait_Ref_Id (x : XReachFinder) : takeD false 1 (x.enc.cells.drop 32) = .d (D.u x.object.thread.wait.ref.id) := by unfold XReachFinder.enc takeD D.cells; rfl
@[go_sem] theorem XReachFinder.st_Object_Thread_Wait_Ref_Id (x : XReachFinder) (v : Int) : storeBox 32 (.d (D.u v)) (.d x.enc) = .d ({ x with object := { x.object with thread := { x.object.thread with wait := { x.object.thread.wait with ref := { x.object.thread.wait.ref with id := v } } } } } : XReachFinder).enc := by unfold storeBox; rfl
@[go_sem] theorem XReachFinder.ld_Object_Thread_Wait_Index (x : XReachFinder) : loadBox false 33 1 (.d x.enc) = .d (D.u x.object.thread.wait.index) := by unfold XReachFinder.enc loadBox; rfl
@[go_sem] theorem XReachFinder.tk_Object_Thread_Wait_Index (x : XReachFinder) : takeD false 1 (x.enc.cells.drop 33) = .d (D.u x.object.thread.wait.index) := by unfold XReachFinder.enc takeD D.cells; rfl
@[go_sem] theorem XReachFinder.st_Object_Thread_Wait_Index (x : XReachFinder) (v : Int) : storeBox 33 (.d (D.u v)) (.d x.enc) = .d ({ x with object := { x.object with thread := { x.object.thread with wait := { x.object.thread.wait with index := v } } } } : XReachFinder).enc := by unfold storeBox; rfl
@[go_sem] theorem XReachFinder.ld_Object_Thread_Wait_Val (x : XReachFinder) : loadBox false 34 1 (.d x.enc) = .d (D.u x.object.thread.wait.val) := by unfold XReachFinder.enc loadBox; rfl
@[go_sem] theorem XReachFinder.tk_Object_Thread_Wait_Val (x : XReachFinder) : takeD false 1 (x.enc.cells.drop 34) = .d (D.u x.object.thread.wait.val) := by unfold XReachFinder.enc takeD D.cells; rfl
@[go_sem] theorem XReachFinder.st_Object_Thread_Wait_Val (x : XReachFinder) (v : Int) : storeBox 34 (.d (D.u v)) (.d x.enc) = .d ({ x with object := { x.object with thread := { x.object.thread with wait := { x.object.thread.wait with val := v } } } } : XReachFinder).enc := by unfold storeBox; rfl
@[go_sem] theorem XReachFinder.ld_Object_Thread_Wait_Dev (x : XReachFinder) : loadBox false 35 1 (.d x.enc) = .d (D.b x.object.thread.wait.dev) := by unfold XReachFinder.enc loadBox; rfl
@[go_sem] theorem XReachFinder.tk_Object_Thread_Wait_Dev (x : XReachFinder) : takeD false 1 (x.enc.cells.drop 35) = .d (D.b x.object.thread.wait.dev) := by unfold XReachFinder.enc takeD D.cells; rfl
@[go_sem] theorem XReachFinder.st_Object_Thread_Wait_Dev (x : XReachFinder) (v : Bool) : storeBox 35 (.d (D.b v)) (.d x.enc) = .d ({ x with object := { x.object with thread := { x.object.thread with wait := { x.object.thread.wait with dev := v } } } } : XReachFinder).enc := by unfold storeBox; rfl
@[go_sem] theorem XReachFinder.ld_Object_Thread_Alerts (x : XReachFinder) : loadBox false 36 1 (.d x.enc) = .d (encL D.u x.object.thread.alerts) := by unfold XReachFinder.enc loadBox; rfl
@[go_sem] theorem XReachFinder.tk_Object_Thread_Alerts (x : XReachFinder) : takeD false 1 (x.enc.cells.drop 36) = .d (encL D.u x.object.thread.alerts) := by unfold XReachFinder.enc takeD D.cells; rfl
@[go_sem] theorem XReachFinder.st_Object_Thread_Alerts (x : XReachFinder) (v : List Int) : storeBox 36 (.d (encL D.u v)) (.d x.enc) = .d ({ x with object := { x.object with thread := { x.object.thread with alerts := v } } } : XReachFinder).enc := by unfold storeBox; rfl
@[go_sem] theorem XReachFinder.ld_Object_Thread_Span (x : XReachFinder) : loadBox true 37 2 (.d x.enc) = .d (XSpan.enc x.object.thread.span) := by unfold XReachFinder.enc loadBox; rfl
@[go_sem] theorem XReachFinder.tk_Object_Thread_Span (x : XReachFinder) : takeD true 2 (x.enc.cells.drop 37) = .d (XSpan.enc x.object.thread.span) := by unfold XReachFinder.enc takeD D.cells; rfl
@[go_sem] theorem XReachFinder.st_Object_Thread_Span (x : XReachFinder) (v : XSpan) : storeBox 37 (.d (XSpan.enc v)) (.d x.enc) = .d ({ x with object := { x.object with thread := { x.object.thread with span := v } } }).enc := by unfold storeBox; rfl
@[go_sem] theorem XReachFinder.ld_Object_Thread_Span_Lo (x : XReachFinder) : loadBox false 37 1 (.d x.enc) = .d (D.u x.object.thread.span.lo) := by unfold XReachFinder.enc loadBox; rfl
@[go_sem] theorem XReachFinder.tk_Object_Thread_Span_Lo (x : XReachFinder) : takeD false 1 (x.enc.cells.drop 37) = .d (D.u x.object.thread.span.lo) := by unfold XReachFinder.enc takeD D.cells; rfl
@[go_sem] theorem XReachFinder.st_Object_Thread_Span_Lo (x : XReachFinder) (v : Int) : storeBox 37 (.d (D.u v)) (.d x.enc) = .d ({ x with object := { x.object with thread := { x.object.thread with span := { x.object.thread.span with lo := v } } } } : XReachFinder).enc := by unfold storeBox; rfl
@[go_sem] theorem XReachFinder.ld_Object_Thread_Span_Hi (x : XReachFinder) : loadBox false 38 1 (.d x.enc) = .d (D.u x.object.thread.span.hi) := by unfold XReachFinder.enc loadBox; rfl
@[go_sem] theorem XReachFinder.tk_Object_Thread_Span_Hi (x : XReachFinder) : takeD false 1 (x.enc.cells.drop 38) = .d (D.u x.object.thread.span.hi) := by unfold XReachFinder.enc takeD D.cells; rfl
@[go_sem] theorem XReachFinder.st_Object_Thread_Span_Hi (x : XReachFinder) (v : Int) : storeBox 38 (.d (D.u v)) (.d x.enc) = .d ({ x with object := { x.object with thread := { x.object.thread with span := { x.object.thread.span with hi := v } } } } : XReachFinder).enc := by unfold storeBox; rfl
@[go_sem] theorem XReachFinder.ld_Object_Thread_Labs (x : XReachFinder) : loadBox true 39 4 (.d x.enc) = .d (encA4_LXPair x.object.thread.labs) := by unfold XReachFinder.enc loadBox; rfl
@[go_sem] theorem XReachFinder.tk_Object_Thread_Labs (x : XReachFinder) : takeD true 4 (x.enc.cells.drop 39) = .d (encA4_LXPair x.object.thread.labs) := by unfold XReachFinder.enc takeD D.cells; rfl
@[go_sem] theorem XReachFinder.ld_Object_Thread_Labs_0 (x : XReachFinder) : loadBox false 39 1 (.d x.enc) = .d (encL XPair.enc (x.object.thread.labs 0)) := by unfold XReachFinder.enc loadBox; rfl
@[go_sem] theorem XReachFinder.tk_Object_Thread_Labs_0 (x : XReachFinder) : takeD false 1 (x.enc.cells.drop 39) = .d (encL XPair.enc (x.object.thread.labs 0)) := by unfold XReachFinder.enc takeD D.cells; rfl
@[go_sem] theorem XReachFinder.ld_Object_Thread_Labs_1 (x : XReachFinder) : loadBox false 40 1 (.d x.enc) = .d (encL XPair.enc (x.object.thread.labs 1)) := by unfold XReachFinder.enc loadBox; rfl
@[go_sem] theorem XReachFinder.tk_Object_Thread_Labs_1 (x : XReachFinder) : takeD false 1 (x.enc.cells.drop 40) = .d (encL XPair.enc (x.object.thread.labs 1)) := by unfold XReachFinder.enc takeD D.cells; rfl
@[go_sem] theorem XReachFinder.ld_Object_Thread_Labs_2 (x : XReachFinder) : loadBox false 41 1 (.d x.enc) = .d (encL XPair.enc (x.object.thread.labs 2)) := by unfold XReachFinder.enc loadBox; rfl
@[go_sem] theorem XReachFinder.tk_Object_Thread_Labs_2 (x : XReachFinder) : takeD false 1 (x.enc.cells.drop 41) = .d (encL XPair.enc (x.object.thread.labs 2)) := by unfold XReachFinder.enc takeD D.cells; rfl
@[go_sem] theorem XReachFinder.ld_Object_Thread_Labs_3 (x : XReachFinder) : loadBox false 42 1 (.d x.enc) = .d (encL XPair.enc (x.object.thread.labs 3)) := by unfold XReachFinder.enc loadBox; rfl
@[go_sem] theorem XReachFinder.tk_Object_Thread_Labs_3 (x : XReachFinder) : takeD false 1 (x.enc.cells.drop 42) = .d (encL XPair.enc (x.object.thread.labs 3)) := by unfold XReachFinder.enc takeD D.cells; rfl
@[go_sem] theorem XReachFinder.ld_Object_Gate (x : XReachFinder) : loadBox true 43 6 (.d x.enc) = .d (XGate.enc x.object.gate) := by unfold XReachFinder.enc loadBox; rfl
@[go_sem] theorem XReachFinder.tk_Object_Gate (x : XReachFinder) : takeD true 6 (x.enc.cells.drop 43) = .d (XGate.enc x.object.gate) := by unfold XReachFinder.enc takeD D.cells; rfl
@[go_sem] theorem XReachFinder.st_Object_Gate (x : XReachFinder) (v : XGate) : storeBox 43 (.d (XGate.enc v)) (.d x.enc) = .d ({ x with object := { x.object with gate := v } }).enc := by unfold storeBox; rfl
@[go_sem] theorem XReachFinder.ld_Object_Gate_Grant (x : XReachFinder) : loadBox false 43 1 (.d x.enc) = .d (encL XPair.enc x.object.gate.grant) := by unfold XReachFinder.enc loadBox; rfl
@[go_sem] theorem XReachFinder.tk_Object_Gate_Grant (x : XReachFinder) : takeD false 1 (x.enc.cells.drop 43) = .d (encL XPair.enc x.object.gate.grant) := by unfold XReachFinder.enc takeD D.cells; rfl
@[go_sem] theorem XReachFinder.st_Object_Gate_Grant (x : XReachFinder) (v : List XPair) : storeBox 43 (.d (encL XPair.enc v)) (.d x.enc) = .d ({ x with object := { x.object with gate := { x.object.gate with grant := v } } } : XReachFinder).enc := by unfold storeBox; rfl
@[go_sem] theorem XReachFinder.ld_Object_Gate_Clear (x : XReachFinder) : loadBox false 44 1 (.d x.enc) = .d (encL XPair.enc x.object.gate.clear) := by unfold XReachFinder.enc loadBox; rfl
@[go_sem] theorem XReachFinder.tk_Object_Gate_Clear (x : XReachFinder) : takeD false 1 (x.enc.cells.drop 44) = .d (encL XPair.enc x.object.gate.clear) := by unfold XReachFinder.enc takeD D.cells; rfl
@[go_sem] theorem XReachFinder.st_Object_Gate_Clear (x : XReachFinder) (v : List XPair) : storeBox 44 (.d (encL XPair.enc v)) (.d x.enc) = .d ({ x with object := { x.object with gate := { x.object.gate with clear := v } } } : XReachFinder).enc := by unfold storeBox; rfl
@[go_sem] theorem XReachFinder.ld_Object_Gate_Space (x : XReachFinder) : loadBox true 45 2 (.d x.enc) = .d (XRef.enc x.object.gate.space) := by unfold XReachFinder.enc loadBox; rfl
@[go_sem] theorem XReachFinder.tk_Object_Gate_Space (x : XReachFinder) : takeD true 2 (x.enc.cells.drop 45) = .d (XRef.enc x.object.gate.space) := by unfold XReachFinder.enc takeD D.cells; rfl
@[go_sem] theorem XReachFinder.st_Object_Gate_Space (x : XReachFinder) (v : XRef) : storeBox 45 (.d (XRef.enc v)) (.d x.enc) = .d ({ x with object := { x.object with gate := { x.object.gate with space := v } } }).enc := by unfold storeBox; rfl
@[go_sem] theorem XReachFinder.ld_Object_Gate_Space_Cont (x : XReachFinder) : loadBox false 45 1 (.d x.enc) = .d (D.u x.object.gate.space.cont) := by unfold XReachFinder.enc loadBox; rfl
@[go_sem] theorem XReachFinder.tk_Object_Gate_Space_Cont (x : XReachFinder) : takeD false 1 (x.enc.cells.drop 45) = .d (D.u x.object.gate.space.cont) := by unfold XReachFinder.enc takeD D.cells; rfl
@[go_sem] theorem XReachFinder.st_Object_Gate_Space_Cont (x : XReachFinder) (v : Int) : storeBox 45 (.d (D.u v)) (.d x.enc) = .d ({ x with object := { x.object with gate := { x.object.gate with space := { x.object.gate.space with cont := v } } } } : XReachFinder).enc := by unfold storeBox; rfl
@[go_sem] theorem XReachFinder.ld_Object_Gate_Space_Id (x : XReachFinder) : loadBox false 46 1 (.d x.enc) = .d (D.u x.object.gate.space.id) := by unfold XReachFinder.enc loadBox; rfl
@[go_sem] theorem XReachFinder.tk_Object_Gate_Space_Id (x : XReachFinder) : takeD false 1 (x.enc.cells.drop 46) = .d (D.u x.object.gate.space.id) := by unfold XReachFinder.enc takeD D.cells; rfl
@[go_sem] theorem XReachFinder.st_Object_Gate_Space_Id (x : XReachFinder) (v : Int) : storeBox 46 (.d (D.u v)) (.d x.enc) = .d ({ x with object := { x.object with gate := { x.object.gate with space := { x.object.gate.space with id := v } } } } : XReachFinder).enc := by unfold storeBox; rfl
@[go_sem] theorem XReachFinder.ld_Object_Gate_Pc (x : XReachFinder) : loadBox false 47 1 (.d x.enc) = .d (D.u x.object.gate.pc) := by unfold XReachFinder.enc loadBox; rfl
@[go_sem] theorem XReachFinder.tk_Object_Gate_Pc (x : XReachFinder) : takeD false 1 (x.enc.cells.drop 47) = .d (D.u x.object.gate.pc) := by unfold XReachFinder.enc takeD D.cells; rfl
@[go_sem] theorem XReachFinder.st_Object_Gate_Pc (x : XReachFinder) (v : Int) : storeBox 47 (.d (D.u v)) (.d x.enc) = .d ({ x with object := { x.object with gate := { x.object.gate with pc := v } } } : XReachFinder).enc := by unfold storeBox; rfl
@[go_sem] theorem XReachFinder.ld_Object_Gate_Arg (x : XReachFinder) : loadBox false 48 1 (.d x.enc) = .d (D.u x.object.gate.arg) := by unfold XReachFinder.enc loadBox; rfl
@[go_sem] theorem XReachFinder.tk_Object_Gate_Arg (x : XReachFinder) : takeD false 1 (x.enc.cells.drop 48) = .d (D.u x.object.gate.arg) := by unfold XReachFinder.enc takeD D.cells; rfl
@[go_sem] theorem XReachFinder.st_Object_Gate_Arg (x : XReachFinder) (v : Int) : storeBox 48 (.d (D.u v)) (.d x.enc) = .d ({ x with object := { x.object with gate := { x.object.gate with arg := v } } } : XReachFinder).enc := by unfold storeBox; rfl
@[go_sem] theorem XReachFinder.ld_Object_In (x : XReachFinder) : loadBox false 49 1 (.d x.enc) = .d (encL D.u x.object.in') := by unfold XReachFinder.enc loadBox; rfl
@[go_sem] theorem XReachFinder.tk_Object_In (x : XReachFinder) : takeD false 1 (x.enc.cells.drop 49) = .d (encL D.u x.object.in') := by unfold XReachFinder.enc takeD D.cells; rfl
@[go_sem] theorem XReachFinder.st_Object_In (x : XReachFinder) (v : List Int) : storeBox 49 (.d (encL D.u v)) (.d x.enc) = .d ({ x with object := { x.object with in' := v } } : XReachFinder).enc := by unfold storeBox; rfl
@[go_sem] theorem XReachFinder.ld_Object_Out (x : XReachFinder) : loadBox false 50 1 (.d x.enc) = .d (encL D.u x.object.out) := by unfold XReachFinder.enc loadBox; rfl
@[go_sem] theorem XReachFinder.tk_Object_Out (x : XReachFinder) : takeD false 1 (x.enc.cells.drop 50) = .d (encL D.u x.object.out) := by unfold XReachFinder.enc takeD D.cells; rfl
@[go_sem] theorem XReachFinder.st_Object_Out (x : XReachFinder) (v : List Int) : storeBox 50 (.d (encL D.u v)) (.d x.enc) = .d ({ x with object := { x.object with out := v } } : XReachFinder).enc := by unfold storeBox; rfl
@[go_sem] theorem XReachFinder.ld_w (x : XReachFinder) : loadBox true 51 4 (.d x.enc) = .d (XWorld.enc x.w) := by unfold XReachFinder.enc loadBox; rfl
@[go_sem] theorem XReachFinder.tk_w (x : XReachFinder) : takeD true 4 (x.enc.cells.drop 51) = .d (XWorld.enc x.w) := by unfold XReachFinder.enc takeD D.cells; rfl
@[go_sem] theorem XReachFinder.st_w (x : XReachFinder) (v : XWorld) : storeBox 51 (.d (XWorld.enc v)) (.d x.enc) = .d ({ x with w := v }).enc := by unfold storeBox; rfl
@[go_sem] theorem XReachFinder.ld_w_Time (x : XReachFinder) : loadBox false 51 1 (.d x.enc) = .d (D.i x.w.time) := by unfold XReachFinder.enc loadBox; rfl
@[go_sem] theorem XReachFinder.tk_w_Time (x : XReachFinder) : takeD false 1 (x.enc.cells.drop 51) = .d (D.i x.w.time) := by unfold XReachFinder.enc takeD D.cells; rfl
@[go_sem] theorem XReachFinder.st_w_Time (x : XReachFinder) (v : Int) : storeBox 51 (.d (D.i v)) (.d x.enc) = .d ({ x with w := { x.w with time := v } } : XReachFinder).enc := by unfold storeBox; rfl
@[go_sem] theorem XReachFinder.ld_w_Key (x : XReachFinder) : loadBox false 52 1 (.d x.enc) = .d (D.u x.w.key) := by unfold XReachFinder.enc loadBox; rfl
@[go_sem] theorem XReachFinder.tk_w_Key (x : XReachFinder) : takeD false 1 (x.enc.cells.drop 52) = .d (D.u x.w.key) := by unfold XReachFinder.enc takeD D.cells; rfl
@[go_sem] theorem XReachFinder.st_w_Key (x : XReachFinder) (v : Int) : storeBox 52 (.d (D.u v)) (.d x.enc) = .d ({ x with w := { x.w with key := v } } : XReachFinder).enc := by unfold storeBox; rfl
@[go_sem] theorem XReachFinder.ld_w_Root (x : XReachFinder) : loadBox false 53 1 (.d x.enc) = .d (D.u x.w.root) := by unfold XReachFinder.enc loadBox; rfl
@[go_sem] theorem XReachFinder.tk_w_Root (x : XReachFinder) : takeD false 1 (x.enc.cells.drop 53) = .d (D.u x.w.root) := by unfold XReachFinder.enc takeD D.cells; rfl
@[go_sem] theorem XReachFinder.st_w_Root (x : XReachFinder) (v : Int) : storeBox 53 (.d (D.u v)) (.d x.enc) = .d ({ x with w := { x.w with root := v } } : XReachFinder).enc := by unfold storeBox; rfl
@[go_sem] theorem XReachFinder.ld_w_Objects (x : XReachFinder) : loadBox false 54 1 (.d x.enc) = .d (encL XObject.enc x.w.objects) := by unfold XReachFinder.enc loadBox; rfl
@[go_sem] theorem XReachFinder.tk_w_Objects (x : XReachFinder) : takeD false 1 (x.enc.cells.drop 54) = .d (encL XObject.enc x.w.objects) := by unfold XReachFinder.enc takeD D.cells; rfl
@[go_sem] theorem XReachFinder.st_w_Objects (x : XReachFinder) (v : List XObject) : storeBox 54 (.d (encL XObject.enc v)) (.d x.enc) = .d ({ x with w := { x.w with objects := v } } : XReachFinder).enc := by unfold storeBox; rfl
end Go.Ab
